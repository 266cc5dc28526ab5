/- Plain theory and walks of small functions (OldB). -/
import Derived.Test.YtfnklchhhojimaaOldA5
import Derived.Test.YtfnklchhhojimaaOldA1
import Derived.Test.YtfnklchhhojimaaOldA4
import Derived.Test.YtfnklchhhojimaaOldA3
import Derived.Laws.DeepStrings4
import Derived.Laws.AppendOwnNone
set_option linter.unusedSimpArgs false
set_option linter.unusedVariables false
namespace Go.Proofs.Ytfnklchhhojimaa
open Go Go.RowKit Tor

theorem rst_len (p s : Int) : ∀ (l : List Tri) (h : Int), (rst p s l h).length ≤ 2 * l.length
  | [], _ => by simp [rst]
  | x :: r, h => by
    unfold rst
    split
    · have := rst_len p s r h
      simp only [List.length_cons]; omega
    · have := rst_len p s r (bestUpto (fun h : Nat => runN (x :: r) h s) (p - s + 1).toNat)
      simp only [List.length_cons]; omega



/-- what Steps gives, program and reference alike -/
def StepsPost (P S : Int) (l : List Tri) (w : World) (e : Ending) (w' : World) : Prop :=
  ∃ (A : Option Addr) (c : Nat), e = .returned (.tuple #[.slice A (if chkE P l S = 0 then rst P S l (-1) else []).length c, .int .i64 (chkE P l S)]) ∧ RdT w' w'.heap.size A (if chkE P l S = 0 then rst P S l (-1) else []) ∧ Below w.heap.size w w'

end Go.Proofs.Ytfnklchhhojimaa

namespace Go.Proofs.Ytfnklchhhojimaa
open Go Go.RowKit Tor

/-- is work i ready? -/
def rdyB (l : List Tri) (M : List Nat) (i : Nat) : Bool := (List.range i).all (fun k => M.contains k || !touchAt l i k) && !M.contains i

/-- may work i be made with the hands at h? -/
def canB (l : List Tri) (M : List Nat) (h s : Int) (i : Nat) : Bool := heldB h s (xAt l i).b && rdyB l M i

/-- the work in reach that is ready and has the least place; -1: there is none -/
def nextUpto (l : List Tri) (M : List Nat) (h s : Int) : Nat → Int
  | 0 => -1
  | i + 1 => if heldB h s (xAt l i).b && (decide (nextUpto l M h s i < 0) || decide ((xAt l i).b < (xAt l (nextUpto l M h s i).toNat).b)) && rdyB l M i then (i : Int) else nextUpto l M h s i

/-- the works that are made, one after the other -/
def mseq (l : List Tri) (h s : Int) : Nat → List Nat → List Nat
  | 0, _ => []
  | k + 1, M => if 0 ≤ nextUpto l M h s l.length then (nextUpto l M h s l.length).toNat :: mseq l h s k (M ++ [(nextUpto l M h s l.length).toNat]) else []

theorem rdyB_iff {l : List Tri} {M : List Nat} {i : Nat} (hi : i < l.length) : rdyB l M i = true ↔ rdy l M i := by
  unfold rdyB rdy
  simp only [Bool.and_eq_true, List.all_eq_true, List.mem_range, Bool.or_eq_true, Bool.not_eq_true', List.contains_eq_mem, decide_eq_true_eq, decide_eq_false_iff_not]
  constructor
  · rintro ⟨h1, h2⟩
    refine ⟨hi, h2, fun j hj hjM ht => ?_⟩
    rcases h1 j hj with h | h
    · exact hjM h
    · unfold touchAt touchB at h
      rw [xAt_of (by omega), xAt_of hi] at h
      simp only [Bool.and_eq_false_iff, decide_eq_false_iff_not] at h
      omega
  · rintro ⟨_, h2, h3⟩
    refine ⟨fun j hj => ?_, h2⟩
    by_cases hjM : j ∈ M
    · exact Or.inl hjM
    · right
      have := h3 j hj hjM
      unfold touchAt touchB
      rw [xAt_of (by omega), xAt_of hi]
      simp only [Bool.and_eq_false_iff, decide_eq_false_iff_not]
      omega

theorem nextUpto_ge (l : List Tri) (M : List Nat) (h s : Int) : ∀ k, -1 ≤ nextUpto l M h s k ∧ nextUpto l M h s k < k
  | 0 => by simp [nextUpto]
  | k + 1 => by
    have := nextUpto_ge l M h s k
    unfold nextUpto
    split <;> omega

theorem nextUpto_spec (l : List Tri) (M : List Nat) (h s : Int) : ∀ k, (nextUpto l M h s k = -1 ∧ ∀ j, j < k → canB l M h s j = false) ∨
    ∃ j : Nat, nextUpto l M h s k = j ∧ j < k ∧ canB l M h s j = true ∧ ∀ j', j' < k → canB l M h s j' = true → (xAt l j).b ≤ (xAt l j').b
  | 0 => Or.inl ⟨rfl, fun j hj => absurd hj (by omega)⟩
  | k + 1 => by
    have ih := nextUpto_spec l M h s k
    unfold nextUpto
    by_cases hc : canB l M h s k = true
    · have hc' := hc
      unfold canB at hc'
      simp only [Bool.and_eq_true] at hc'
      rcases ih with ⟨e, hn⟩ | ⟨j, e, hj, hcj, hle⟩
      · right
        rw [if_pos (by rw [hc'.1, hc'.2, e]; rfl)]
        refine ⟨k, rfl, by omega, hc, fun j' hj' hcj' => ?_⟩
        by_cases e' : j' = k
        · subst e'; exact Int.le_refl _
        · rw [hn j' (by omega)] at hcj'; cases hcj'
      · right
        by_cases hlt : (xAt l k).b < (xAt l j).b
        · rw [if_pos (by rw [hc'.1, hc'.2, e]; simp [hlt])]
          refine ⟨k, rfl, by omega, hc, fun j' hj' hcj' => ?_⟩
          by_cases e' : j' = k
          · subst e'; exact Int.le_refl _
          · have := hle j' (by omega) hcj'; omega
        · rw [if_neg (by rw [hc'.1, hc'.2, e]; simp [hlt])]
          refine ⟨j, e, by omega, hcj, fun j' hj' hcj' => ?_⟩
          by_cases e' : j' = k
          · subst e'; omega
          · exact hle j' (by omega) hcj'
    · have hc' : canB l M h s k = false := by simpa using hc
      have hn : ¬ ((heldB h s (xAt l k).b && (decide (nextUpto l M h s k < 0) || decide ((xAt l k).b < (xAt l (nextUpto l M h s k).toNat).b)) && rdyB l M k) = true) := by
        unfold canB at hc'
        intro hh
        simp only [Bool.and_eq_true] at hh
        rw [hh.1.1, hh.2] at hc'
        cases hc'
      rw [if_neg hn]
      rcases ih with ⟨e, hn2⟩ | ⟨j, e, hj, hcj, hle⟩
      · left
        refine ⟨e, fun j hj => ?_⟩
        by_cases e' : j = k
        · subst e'; exact hc'
        · exact hn2 j (by omega)
      · right
        refine ⟨j, e, by omega, hcj, fun j' hj' hcj' => ?_⟩
        by_cases e' : j' = k
        · subst e'; rw [hc'] at hcj'; cases hcj'
        · exact hle j' (by omega) hcj'


/-- two works that are ready do not touch -/
theorem rdy_apart {l : List Tri} {M : List Nat} {i j : Nat} (hi : rdy l M i) (hj : rdy l M j) (hne : i ≠ j) (hil : i < l.length) (hjl : j < l.length) : ¬ (l[i].b - l[j].b ≤ 1 ∧ l[j].b - l[i].b ≤ 1) := by
  obtain ⟨_, hi1, hi2⟩ := hi
  obtain ⟨_, hj1, hj2⟩ := hj
  rcases Nat.lt_or_ge i j with h | h
  · exact hj2 i h hi1
  · have := hi2 j (by omega) hj1
    omega

theorem next_none {l : List Tri} {M : List Nat} {h s : Int} (hn : ∀ j, j < l.length → canB l M h s j = false) : nextUpto l M h s l.length = -1 := by
  rcases nextUpto_spec l M h s l.length with ⟨e, _⟩ | ⟨j, _, hj, hc, _⟩
  · exact e
  · rw [hn j hj] at hc; cases hc
theorem next_some {l : List Tri} {M : List Nat} {h s : Int} {i : Nat} (hi : i < l.length) (hc : canB l M h s i = true) (hle : ∀ j, j < l.length → canB l M h s j = true → (xAt l i).b ≤ (xAt l j).b) : nextUpto l M h s l.length = i := by
  rcases nextUpto_spec l M h s l.length with ⟨_, hn⟩ | ⟨j, e, hj, hcj, hle2⟩
  · rw [hn i hi] at hc; cases hc
  · rw [e]
    have h1 := hle j hj hcj
    have h2 := hle2 i hi hc
    unfold canB at hc hcj
    simp only [Bool.and_eq_true] at hc hcj
    by_cases hne : i = j
    · rw [hne]
    · have := rdy_apart ((rdyB_iff hi).1 hc.2) ((rdyB_iff hj).1 hcj.2) hne hi hj
      rw [xAt_of hi, xAt_of hj] at h1 h2
      omega

theorem sum_front {f : Nat → List Nat} {a i m : Nat} (h : front f a = some i) (hm : a + 1 < m) : sumTo (pop f a) m + 2 = sumTo f m := by
  obtain ⟨_, r1, r2, h1, h2⟩ := frontZ_some h
  have := sumTo_pop f a (by rw [h1]; simp) (by rw [h2]; simp) m
  rw [if_pos (by omega), if_pos hm] at this
  omega


/-- the sweep makes what the reference makes, one after the other -/
theorem swp_mseq {l : List Tri} {h s : Nat} (hh : h + s ≤ 24) (hb : ∀ (k : Nat) (hk : k < l.length), 0 ≤ l[k].b) :
    ∀ (N k a : Nat) (M : List Nat), h ≤ a → (∀ j (hj : j < l.length), rdy l M j → ¬ ((h : Int) ≤ l[j].b ∧ l[j].b < a)) → 2 * sumTo (rowsOf l M) 24 + (h + s - a) ≤ N → (∀ x ∈ M, x < l.length) → M.Nodup → l.length ≤ k + M.length →
      (swp h s N a (rowsOf l M)).1 = mseq l h s k M
  | 0, k, a, M, ha, hinv, hN, hM, hnd, hk => by
    have hnone : nextUpto l M h s l.length = -1 := next_none fun j hj => by
      cases hc : canB l M h s j
      · rfl
      · exfalso
        unfold canB at hc
        simp only [Bool.and_eq_true] at hc
        have hr := (rdyB_iff hj).1 hc.2
        have hheld := (held_iff _ _ _).1 hc.1
        rw [xAt_of hj] at hheld
        exact hinv j hj hr ⟨hheld.2.1, by omega⟩
    cases k with
    | zero => rfl
    | succ k => rw [mseq, hnone, if_neg (by omega)]; rfl
  | N + 1, k, a, M, ha, hinv, hN, hM, hnd, hk => by
    unfold swp
    by_cases hlt : a + 1 < h + s
    · rw [if_pos hlt]
      cases hf : front (rowsOf l M) a with
      | none =>
        refine swp_mseq hh hb N k (a + 1) M (by omega) (fun j hj hr hba => ?_) (by omega) hM hnd hk
        by_cases e : l[j].b = a
        · have := front_of_rdy (a := a) hr (fun _ => e)
          rw [hf] at this; cases this
        · exact hinv j hj hr ⟨hba.1, by omega⟩
      | some i =>
        obtain ⟨hr, hil, hbi⟩ := front_rdy hf
        have hcan : canB l M h s i = true := by
          unfold canB
          rw [(rdyB_iff hil).2 hr, (held_iff _ _ _).2 (by rw [xAt_of hil]; omega)]; rfl
        have hnext : nextUpto l M h s l.length = i := next_some hil hcan fun j hj hcj => by
          unfold canB at hcj
          simp only [Bool.and_eq_true] at hcj
          have hrj := (rdyB_iff hj).1 hcj.2
          have hheld := (held_iff _ _ _).1 hcj.1
          rw [xAt_of hj] at hheld ⊢
          rw [xAt_of hil]
          have := hinv j hj hrj
          omega
        obtain ⟨_, hiM, _⟩ := hr
        have hlen : (M ++ [i]).length ≤ l.length := len_of_nodup _ _ (by rw [List.nodup_append]; exact ⟨hnd, by simp, fun x hx y hy e => by simp at hy; subst hy; subst e; exact hiM hx⟩) (fun x hx => by
          rcases List.mem_append.1 hx with hx | hx
          · exact hM x hx
          · simp at hx; subst hx; exact hil)
        obtain ⟨k', rfl⟩ : ∃ k', k = k' + 1 := ⟨k - 1, by simp at hlen; omega⟩
        have hsum := sum_front hf (show a + 1 < 24 by omega)
        rw [mseq, hnext, if_pos (by omega)]
        simp only [Int.toNat_natCast, pop_rows hf] at hsum ⊢
        congr 1
        refine swp_mseq hh hb N k' (max h (a - 1)) (M ++ [i]) (by omega) (fun j hj hr2 hba => ?_) (by omega) (fun x hx => by
          rcases List.mem_append.1 hx with hx | hx
          · exact hM x hx
          · simp at hx; subst hx; exact hil) (by rw [List.nodup_append]; exact ⟨hnd, by simp, fun x hx y hy e => by simp at hy; subst hy; subst e; exact hiM hx⟩) (by simp; omega)
        -- ready behind i, further left than a - 1: was ready before
        obtain ⟨_, hj1, hj2⟩ := hr2
        have hjM : j ∉ M := fun h => hj1 (by simp [h])
        have hold : rdy l M j := ⟨hj, hjM, fun q hq hqM ht => by
          by_cases e : q = i
          · subst e; omega
          · exact hj2 q hq (by simp [hqM, e]) ht⟩
        exact hinv j hj hold ⟨by omega, by omega⟩
    · rw [if_neg hlt]
      have hnone : nextUpto l M h s l.length = -1 := next_none fun j hj => by
        cases hc : canB l M h s j
        · rfl
        · exfalso
          unfold canB at hc
          simp only [Bool.and_eq_true] at hc
          have hr := (rdyB_iff hj).1 hc.2
          have hheld := (held_iff _ _ _).1 hc.1
          rw [xAt_of hj] at hheld
          exact hinv j hj hr ⟨hheld.2.1, by omega⟩
      cases k with
      | zero => rfl
      | succ k => rw [mseq, hnone, if_neg (by omega)]
theorem all_made {n : Nat} {M : List Nat} (hnd : M.Nodup) (hM : ∀ x ∈ M, x < n) (hl : n ≤ M.length) : ∀ i, i < n → i ∈ M := fun i hi => Classical.byContradiction fun hc => by
  have := len_of_nodup n (M ++ [i]) (by rw [List.nodup_append]; exact ⟨hnd, by simp, fun x hx y hy e => by simp at hy; subst hy; subst e; exact hc hx⟩) (fun x hx => by
    rcases List.mem_append.1 hx with hx | hx
    · exact hM x hx
    · simp at hx; subst hx; exact hi)
  simp at this
  omega

theorem next_can {l : List Tri} {M : List Nat} {h s : Int} (hn : 0 ≤ nextUpto l M h s l.length) : ∃ i : Nat, nextUpto l M h s l.length = i ∧ i < l.length ∧ canB l M h s i = true := by
  rcases nextUpto_spec l M h s l.length with ⟨e, _⟩ | ⟨j, e, hj, hc, _⟩
  · rw [e] at hn; omega
  · exact ⟨j, e, hj, hc⟩
theorem can_new {l : List Tri} {M : List Nat} {h s : Int} {i : Nat} (hc : canB l M h s i = true) : i ∉ M := by
  unfold canB rdyB at hc
  simp only [Bool.and_eq_true, Bool.not_eq_true', List.contains_eq_mem, decide_eq_false_iff_not] at hc
  exact hc.2.2
theorem snoc_ok {n : Nat} {M : List Nat} {i : Nat} (hnd : M.Nodup) (hM : ∀ x ∈ M, x < n) (hi : i < n) (hiM : i ∉ M) : (M ++ [i]).Nodup ∧ ∀ x ∈ M ++ [i], x < n :=
  ⟨by rw [List.nodup_append]; exact ⟨hnd, by simp, fun x hx y hy e => by simp at hy; subst hy; subst e; exact hiM hx⟩, fun x hx => by
    rcases List.mem_append.1 hx with hx | hx
    · exact hM x hx
    · simp at hx; subst hx; exact hi⟩

theorem mseq_end {l : List Tri} {h s : Int} : ∀ (k : Nat) (M : List Nat), M.Nodup → (∀ x ∈ M, x < l.length) → l.length ≤ k + M.length → nextUpto l (M ++ mseq l h s k M) h s l.length = -1
  | 0, M, hnd, hM, hk => next_none fun j hj => by
    have := all_made hnd hM (by omega) j hj
    cases hc : canB l (M ++ mseq l h s 0 M) h s j
    · rfl
    · exact absurd (can_new hc) (by simp [mseq, this])
  | k + 1, M, hnd, hM, hk => by
    unfold mseq
    by_cases hn : 0 ≤ nextUpto l M h s l.length
    · rw [if_pos hn]
      obtain ⟨i, e, hi, hc⟩ := next_can hn
      obtain ⟨h1, h2⟩ := snoc_ok hnd hM hi (can_new hc)
      have := mseq_end (l := l) (h := h) (s := s) k (M ++ [i]) h1 h2 (by simp; omega)
      rw [e]
      simpa using this
    · rw [if_neg hn, List.append_nil]
      have := (nextUpto_ge l M h s l.length).1
      omega

section
variable (l : List Tri) (P S : Nat)
/-- the reference's best place -/
def rbest (M : List Nat) : Nat := bestUpto (fun h : Nat => (mseq l h S l.length M).length) (P - S + 1)

/-- the reference's quick instructions -/
def rq : Nat → List Nat → Int → List Tri
  | 0, _, _ => []
  | k + 1, M, h => if M.length < l.length then
      if 0 ≤ nextUpto l M h S l.length then stepAt l (nextUpto l M h S l.length).toNat :: rq k (M ++ [(nextUpto l M h S l.length).toNat]) h
      else ⟨1, rbest l P S M, .empty⟩ :: rq k M (rbest l P S M)
    else []
end
variable {l : List Tri} {P S : Nat}

theorem rq_make {k : Nat} {M : List Nat} {h : Int} {i : Nat} (hl : M.length < l.length) (hn : nextUpto l M h S l.length = i) : rq l P S (k + 1) M h = stepAt l i :: rq l P S k (M ++ [i]) h := by
  rw [rq, if_pos hl, hn, if_pos (by omega)]; rfl
theorem rq_reach {k : Nat} {M : List Nat} {h : Int} (hl : M.length < l.length) (hn : ¬ 0 ≤ nextUpto l M h S l.length) : rq l P S (k + 1) M h = ⟨1, rbest l P S M, .empty⟩ :: rq l P S k M (rbest l P S M) := by
  rw [rq, if_pos hl, if_neg hn]
theorem rq_end {k : Nat} {M : List Nat} {h : Int} (hl : ¬ M.length < l.length) : rq l P S k M h = [] := by
  cases k with
  | zero => rfl
  | succ k => rw [rq, if_neg hl]

theorem mseq_ok {h s : Int} : ∀ (k : Nat) (M : List Nat), M.Nodup → (∀ x ∈ M, x < l.length) → (M ++ mseq l h s k M).Nodup ∧ ∀ x ∈ M ++ mseq l h s k M, x < l.length
  | 0, M, hnd, hM => by simpa [mseq] using ⟨hnd, hM⟩
  | k + 1, M, hnd, hM => by
    unfold mseq
    by_cases hn : 0 ≤ nextUpto l M h s l.length
    · rw [if_pos hn]
      obtain ⟨i, e, hi, hc⟩ := next_can hn
      obtain ⟨h1, h2⟩ := snoc_ok hnd hM hi (can_new hc)
      have := mseq_ok (h := h) (s := s) k (M ++ [i]) h1 h2
      rw [e]
      simpa using this
    · rw [if_neg hn]; simpa using ⟨hnd, hM⟩


/-- what is made before the hands must reach again -/
theorem rq_run {h : Int} : ∀ (k : Nat) (M : List Nat) (K : Nat), M.Nodup → (∀ x ∈ M, x < l.length) → (mseq l h S k M).length ≤ K →
    rq l P S K M h = (mseq l h S k M).map (stepAt l) ++ rq l P S (K - (mseq l h S k M).length) (M ++ mseq l h S k M) h
  | 0, M, K, _, _, _ => by simp [mseq]
  | k + 1, M, K, hnd, hM, hK => by
    unfold mseq at hK ⊢
    by_cases hn : 0 ≤ nextUpto l M h S l.length
    · rw [if_pos hn] at hK ⊢
      obtain ⟨i, e, hi, hc⟩ := next_can hn
      obtain ⟨h1, h2⟩ := snoc_ok hnd hM hi (can_new hc)
      rw [e] at hK ⊢
      simp only [Int.toNat_natCast, List.length_cons] at hK ⊢
      obtain ⟨K', rfl⟩ : ∃ K', K = K' + 1 := ⟨K - 1, by omega⟩
      have hlen := len_of_nodup _ _ h1 h2
      rw [rq_make (by simp at hlen; omega) e, rq_run (h := h) k (M ++ [i]) K' h1 h2 (by omega)]
      simp
    · rw [if_neg hn]; simp

theorem offN_mseq {N : Nat} {M : List Nat} {h : Nat} (hh : h + S ≤ 24) (hb : ∀ (k : Nat) (hk : k < l.length), 0 ≤ l[k].b) (hN : 4 * l.length + S ≤ N) (hM : ∀ x ∈ M, x < l.length) (hnd : M.Nodup) :
    (swp h S N h (rowsOf l M)).1 = mseq l h S l.length M :=
  swp_mseq hh hb N l.length h M (Nat.le_refl _) (fun j hj hr hba => by omega) (by have := sumTo_rowsOf l M 24; omega) hM hnd (by omega)

theorem rbest_eq {N : Nat} {M : List Nat} (hS : 2 ≤ S) (hSP : S ≤ P) (hP : P ≤ 24) (hb : ∀ (k : Nat) (hk : k < l.length), 0 ≤ l[k].b) (hN : 4 * l.length + S ≤ N) (hM : ∀ x ∈ M, x < l.length) (hnd : M.Nodup) :
    bestUpto (offN S N (rowsOf l M)) (P - S + 1) = rbest l P S M := by
  unfold rbest
  have aux : ∀ n, n ≤ P - S + 1 → bestUpto (offN S N (rowsOf l M)) n = bestUpto (fun h : Nat => (mseq l h S l.length M).length) n := fun n hn => by
    induction n with
    | zero => rfl
    | succ n ih =>
      have ih := ih (by omega)
      have e : ∀ h, h ≤ n → offN S N (rowsOf l M) h = (mseq l h S l.length M).length := fun h hh => by
        unfold offN
        rw [offN_mseq (by omega) hb hN hM hnd]
      have hle := bestUpto_le (fun h : Nat => (mseq l h S l.length M).length) n
      unfold bestUpto
      rw [ih, e n (Nat.le_refl _), e _ hle]
  exact aux _ (Nat.le_refl _)


/-- the program's quick instructions are the reference's -/
theorem qloop_rq {N : Nat} (hS : 2 ≤ S) (hSP : S ≤ P) (hP : P ≤ 24) (hb : ∀ (k : Nat) (hk : k < l.length), 0 ≤ l[k].b ∧ l[k].b ≤ (P : Int) - 2) (hN : 4 * l.length + S ≤ N) :
    ∀ (g : Nat) (M : List Nat) (h : Int) (K : Nat), M.Nodup → (∀ x ∈ M, x < l.length) → l.length ≤ g + M.length → 2 * l.length ≤ K + 2 * M.length → ¬ 0 ≤ nextUpto l M h S l.length → qloop l P S N g M = rq l P S K M h
  | 0, M, h, K, hnd, hM, hg, hK, hn => by
    rw [rq_end (by omega)]; rfl
  | g + 1, M, h, K, hnd, hM, hg, hK, hn => by
    by_cases hl : M.length < l.length
    · have hb0 : ∀ (k : Nat) (hk : k < l.length), 0 ≤ l[k].b := fun k hk => (hb k hk).1
      have hbest := rbest_eq (N := N) hS hSP hP hb0 hN hM hnd
      have hbl := bestUpto_lt (offN S N (rowsOf l M)) (P - S + 1) (by omega)
      rw [hbest] at hbl
      have hmq := offN_mseq (N := N) (M := M) (h := rbest l P S M) (by omega) hb0 hN hM hnd
      have hpos := much_pos (p := P) (s := S) (N := N) hl hb hS hSP (by omega)
      rw [hbest] at hpos
      unfold offN at hpos
      rw [hmq] at hpos
      obtain ⟨K', rfl⟩ : ∃ K', K = K' + 1 := ⟨K - 1, by omega⟩
      obtain ⟨o1, o2⟩ := mseq_ok (l := l) (h := (rbest l P S M : Int)) (s := S) l.length M hnd hM
      have hlen := len_of_nodup _ _ o1 o2
      rw [List.length_append] at hlen
      rw [qloop_step hl hbest (by omega), rq_reach hl hn, hmq, rq_run (P := P) l.length M K' hnd hM (by omega)]
      simp only [List.cons_append, Nat.add_sub_cancel]
      congr 2
      refine qloop_rq hS hSP hP hb hN g _ _ _ o1 o2 (by rw [List.length_append]; omega) (by rw [List.length_append]; omega) ?_
      rw [mseq_end l.length M hnd hM (by omega)]
      omega
    · rw [rq_end hl, qloop_end hl]
end Go.Proofs.Ytfnklchhhojimaa

namespace Go.Proofs.Ytfnklchhhojimaa
open Go Go.RowKit Tor

/-- which works are made, as the reference keeps it -/
def doneL (n : Nat) (M : List Nat) : List Bool := (List.range n).map fun i => M.contains i
theorem doneL_len (n : Nat) (M : List Nat) : (doneL n M).length = n := by simp [doneL]
theorem doneL_get {n : Nat} {M : List Nat} {i : Nat} (h : i < (doneL n M).length) : (doneL n M)[i] = M.contains i := by simp [doneL]


end Go.Proofs.Ytfnklchhhojimaa

namespace Go.Proofs.Ytfnklchhhojimaa
open Go Go.RowKit Tor

theorem heldR_ex (h s a : Int) (w : World) (g : Ex w) (b1 : -1000 ≤ h) (b2 : h ≤ 1000) (b3 : -1000 ≤ s) (b4 : s ≤ 1000) (b5 : -1000 ≤ a) (b6 : a ≤ 1000) :
    Calls Try.prog 45 #[.int .i64 h, .int .i64 s, .int .i64 a] g.w (fun e w'' => e = .returned (.bool (heldB h s a)) ∧ ∃ g' : Ex w, w'' = g'.w) :=
  calls_ex (held_any h s a g.w b1 b2 b3 b4 b5 b6)

end Go.Proofs.Ytfnklchhhojimaa

namespace Go.Proofs.Ytfnklchhhojimaa
open Go Go.RowKit Tor

theorem infoBool : (Try.prog.info? 4).map (fun i => (i.zero, i.size, i.bytes)) = some (some (.bool false), 1, 1) := by kernel_rfl

theorem flat_benc : ∀ l : List Bool, l.flatMap benc = l.map Value.bool
  | [] => rfl
  | x :: l => by rw [List.flatMap_cons, flat_benc l]; rfl
theorem doneL_set {n : Nat} {M : List Nat} {i : Nat} : (doneL n M).set i true = doneL n (M ++ [i]) := by
  apply List.ext_getElem
  · simp [doneL_len]
  · intro k h1 h2
    rw [List.getElem_set, doneL_get h2]
    split
    · next e => subst e; simp
    · next e => rw [doneL_get (by simpa using h1)]; simp [Ne.symm e]


/-- the row that keeps what is made -/
def DoneRow (w : World) (base g cap n : Nat) (M : List Nat) : Prop := Own 1 benc w base 4 (.slice (some ⟨g, 0, none⟩) n cap) (doneL n M)

section
variable {w w' : World} {base g cap n : Nat} {M : List Nat}
theorem DoneRow.heap (h : DoneRow w base g cap n M) : base ≤ g ∧ g < w.heap.size ∧ ∃ cur, w.heap[g]? = some (.cells cur 4 (0, 0)) := by
  rcases h.2 with ⟨h', _⟩ | ⟨g', cap', cur, h', hb, hg, _⟩
  · simp at h'
  · simp only [Value.slice.injEq, Option.some.injEq, Addr.mk.injEq, and_true, true_and] at h'
    obtain ⟨rfl, _, rfl⟩ := h'
    exact ⟨hb, (Array.getElem?_eq_some_iff.1 hg).1, cur, hg⟩
theorem DoneRow.rd (h : DoneRow w base g cap n M) : RdB w w.heap.size (some ⟨g, 0, none⟩) (doneL n M) := by
  obtain ⟨A, c, e, _, hr⟩ := Own.rd bool_len h
  injection e with e1 _ _
  rw [e1]; exact hr
theorem DoneRow.cell (h : DoneRow w base g cap n M) {i : Nat} (hi : i < n) : w.cell? ⟨g, i, none⟩ = some (.bool (M.contains i)) := by
  obtain ⟨b, o, e, _, hc⟩ := Rd.bool h.rd (k := i) (by rw [doneL_len]; exact hi)
  injection e with e
  injection e with e1 e2 _
  subst e1; subst e2
  rw [doneL_get, Nat.zero_add] at hc
  exact hc
theorem DoneRow.below (h : DoneRow w base g cap n M) (hB : Below w.heap.size w w') : DoneRow w' base g cap n M := Own.below h hB
theorem DoneRow.frozen (h : DoneRow w base g cap n M) (i : Nat) : w.frozen? ⟨g, i, none⟩ = false := by
  have h' := h
  unfold DoneRow Own at h'
  rw [doneL_len] at h'
  exact h'.frozenAt i
theorem DoneRow.store (h : DoneRow w base g cap n M) (i : Nat) : DoneRow (w.setCell ⟨g, i, none⟩ (.bool true)) base g cap n (M ++ [i]) ∧ w.grownBy (w.setCell ⟨g, i, none⟩ (.bool true)) (some g) := by
  have h' := h
  unfold DoneRow Own at h' ⊢
  rw [doneL_len] at h' ⊢
  obtain ⟨h1, h2⟩ := h'.stored i (.bool true)
  refine ⟨?_, h2⟩
  have e : ((doneL n M).flatMap benc).set i (.bool true) = (doneL n (M ++ [i])).flatMap benc := by
    rw [flat_benc, flat_benc, ← doneL_set, List.map_set]
  rw [← e]; exact h1
theorem DoneRow.other (h : DoneRow w base g cap n M) {row : Option Nat} (hg : w.grownBy w' row) (hne : some g ≠ row) : DoneRow w' base g cap n M := by
  obtain ⟨h1, h2⟩ := h
  refine ⟨h1, ?_⟩
  rcases h2 with h2 | ⟨g', cap', cur, hv, hb, hh, r⟩
  · exact Or.inl h2
  · simp only [Value.slice.injEq, Option.some.injEq, Addr.mk.injEq, and_true, true_and] at hv
    obtain ⟨rfl, hnn, rfl⟩ := hv
    exact Or.inr ⟨g, cap, cur, by rw [← hnn], hb, (hg.block g (Array.getElem?_eq_some_iff.1 hh).1 hne).trans hh, r⟩
theorem DoneRow.alloc (h : DoneRow w base g cap n M) (o : Obj) : DoneRow (w.alloc o) base g cap n M := Own.alloc h o
end

/-- an owned row of n > 0 bools has an address -/
theorem DoneRow.of {w : World} {base n : Nat} {M : List Nat} {v : Value} (hn : 0 < n) (h : w.ownsRow base 4 1 v n ((doneL n M).flatMap benc)) : ∃ g cap, v = .slice (some ⟨g, 0, none⟩) n cap ∧ DoneRow w base g cap n M := by
  have h2 := h.2
  rcases h2 with ⟨_, h0⟩ | ⟨g, cap, cur, hv, _⟩
  · omega
  · subst hv
    refine ⟨g, cap, rfl, ?_⟩
    unfold DoneRow Own
    rw [doneL_len]; exact h

theorem rdB_news {w : World} {B : Nat} {b o : Nat} {l : List Bool} (hl : l ≠ []) (h : RdB w B (some ⟨b, o, none⟩) l) : ∀ (j : Nat) u, (l.flatMap benc)[j]? = some u → w.cell? (Addr.add ⟨b, o, none⟩ j) = some u := by
  intro j u hu
  obtain ⟨b', o', e, _, hc⟩ := h hl
  injection e with e
  injection e with e1 e2 _
  subst e1; subst e2
  rw [flat_benc, List.getElem?_map] at hu
  cases hj : l[j]? with
  | none => rw [hj] at hu; cases hu
  | some x =>
    rw [hj] at hu
    simp only [Option.map_some, Option.some.injEq] at hu
    subst hu
    have := hc j x hj 0 _ rfl
    simp only [Nat.mul_one, Nat.add_zero] at this
    unfold Addr.add
    split
    · next e => subst e; simpa using this
    · exact this


end Go.Proofs.Ytfnklchhhojimaa

namespace Go.Proofs.Ytfnklchhhojimaa
open Go Go.RowKit Tor

def mostUpto (f : Nat → Nat) : Nat → Nat
  | 0 => 0
  | k + 1 => f (bestUpto f (k + 1))
theorem most_up {f : Nat → Nat} {j : Nat} (h : mostUpto f j < f j) : bestUpto f (j + 1) = j ∧ mostUpto f (j + 1) = f j := by
  have e : bestUpto f (j + 1) = j := by
    cases j with
    | zero => have := bestUpto_le f 1; unfold bestUpto; split <;> rfl
    | succ j =>
      have h' : f (bestUpto f (j + 1)) < f (j + 1) := h
      rw [bestUpto, if_pos h']
  exact ⟨e, by rw [mostUpto, e]⟩
theorem most_keep {f : Nat → Nat} {j : Nat} (h : ¬ mostUpto f j < f j) : bestUpto f (j + 1) = bestUpto f j ∧ mostUpto f (j + 1) = mostUpto f j := by
  cases j with
  | zero =>
    have e : bestUpto f (0 + 1) = 0 := by unfold bestUpto; split <;> rfl
    refine ⟨e, ?_⟩
    have e2 : mostUpto f (0 + 1) = f 0 := by show f (bestUpto f (0 + 1)) = f 0; rw [e]
    rw [e2]
    have h' : ¬ 0 < f 0 := h
    show f 0 = 0
    omega
  | succ j =>
    have h' : ¬ f (bestUpto f (j + 1)) < f (j + 1) := h
    have e : bestUpto f (j + 1 + 1) = bestUpto f (j + 1) := by rw [bestUpto, if_neg h']
    exact ⟨e, by rw [mostUpto, e]; rfl⟩

section
variable {l : List Tri} {P S : Nat}
/-- 1 where nothing can be made before the hands reach -/
def late (l : List Tri) (M : List Nat) (h s : Int) : Nat := if nextUpto l M h s l.length < 0 then 1 else 0
theorem late_le (l : List Tri) (M : List Nat) (h s : Int) : late l M h s ≤ 1 := by unfold late; split <;> omega
theorem late_one {M : List Nat} {h s : Int} (hn : ¬ 0 ≤ nextUpto l M h s l.length) : late l M h s = 1 := by unfold late; rw [if_pos (by omega)]
theorem late_no {M : List Nat} {h s : Int} (hn : 0 ≤ nextUpto l M h s l.length) : late l M h s = 0 := by unfold late; rw [if_neg (by omega)]
theorem rbest_next {M : List Nat} (hS : 2 ≤ S) (hSP : S ≤ P) (hP : P ≤ 24) (hb : ∀ (k : Nat) (hk : k < l.length), 0 ≤ l[k].b ∧ l[k].b ≤ (P : Int) - 2) (hM : ∀ x ∈ M, x < l.length) (hnd : M.Nodup) (hl : M.length < l.length) :
    0 ≤ nextUpto l M (rbest l P S M) S l.length := by
  have hb0 : ∀ (k : Nat) (hk : k < l.length), 0 ≤ l[k].b := fun k hk => (hb k hk).1
  have hbest := rbest_eq (N := 4 * l.length + S) hS hSP hP hb0 (Nat.le_refl _) hM hnd
  have hbl := bestUpto_lt (offN S (4 * l.length + S) (rowsOf l M)) (P - S + 1) (by omega)
  rw [hbest] at hbl
  have hpos := much_pos (p := P) (s := S) (N := 4 * l.length + S) hl hb hS hSP (by omega)
  rw [hbest] at hpos
  unfold offN at hpos
  rw [offN_mseq (by omega) hb0 (Nat.le_refl _) hM hnd] at hpos
  refine Classical.byContradiction fun hn => ?_
  have h0 : ∀ k, mseq l (rbest l P S M) S k M = [] := fun k => by
    cases k with
    | zero => rfl
    | succ k => rw [mseq, if_neg hn]
  rw [h0] at hpos
  simp at hpos
theorem rbest_lt {M : List Nat} (hS : 2 ≤ S) (hSP : S ≤ P) (hP : P ≤ 24) : rbest l P S M ≤ 24 := by
  have := bestUpto_lt (fun h : Nat => (mseq l h S l.length M).length) (P - S + 1) (by omega)
  unfold rbest; omega
theorem rq_make' {k : Nat} {M : List Nat} {h : Int} {i : Nat} (hk : 0 < k) (hl : M.length < l.length) (hn : nextUpto l M h S l.length = i) : rq l P S k M h = stepAt l i :: rq l P S (k - 1) (M ++ [i]) h := by
  obtain ⟨k', rfl⟩ : ∃ k', k = k' + 1 := ⟨k - 1, by omega⟩
  exact rq_make hl hn
theorem rq_reach' {k : Nat} {M : List Nat} {h : Int} {b : Nat} (hk : 0 < k) (hl : M.length < l.length) (hn : ¬ 0 ≤ nextUpto l M h S l.length) (hb : rbest l P S M = b) : rq l P S k M h = ⟨1, b, .empty⟩ :: rq l P S (k - 1) M b := by
  obtain ⟨k', rfl⟩ : ∃ k', k = k' + 1 := ⟨k - 1, by omega⟩
  subst hb
  exact rq_reach hl hn
end

theorem doneRow_start {w : World} {base g n : Nat} (h : w.ownsRow base 4 1 (.slice (some ⟨g, 0, none⟩) n n) n (madeCells (Value.bool false).cells (n * 1)).toList) : DoneRow w base g n n [] := by
  unfold DoneRow Own
  rw [doneL_len]
  have e : (doneL n []).flatMap benc = (madeCells (Value.bool false).cells (n * 1)).toList := by
    rw [flat_benc, show (Value.bool false).cells = #[.bool false] from rfl, toList_madeCells_one, Nat.mul_one]
    apply List.ext_getElem
    · simp [doneL_len]
    · intro k h1 h2
      simp [doneL]
  rw [e]; exact h

theorem DoneRow.ne {w : World} {base g cap n : Nat} {M : List Nat} {v : Value} {done : List Tri} (hD : DoneRow w base g cap n M) (hO : Own 3 Tri.enc w base 45 v done) : some g ≠ v.ownBlock := by
  obtain ⟨_, _, cur, hc⟩ := hD.heap
  exact Own.ne_block hO hc (by decide)
theorem DoneRow.step {w w' : World} {base g cap n : Nat} {M : List Nat} {v : Value} {done : List Tri} {o : Obj} (hD : DoneRow w base g cap n M) (hO : Own 3 Tri.enc w base 45 v done) (hg : (w.alloc o).grownBy w' v.ownBlock) : DoneRow w' base g cap n M :=
  (hD.alloc o).other hg ((hD.alloc o).ne (hO.alloc o))


end Go.Proofs.Ytfnklchhhojimaa

namespace Go.Proofs.Ytfnklchhhojimaa
open Go Go.RowKit Tor

theorem rq_len (l : List Tri) (P S : Nat) : ∀ (k : Nat) (M : List Nat) (h : Int), (rq l P S k M h).length ≤ k
  | 0, _, _ => by simp [rq]
  | k + 1, M, h => by
    unfold rq
    split
    · split
      · have := rq_len l P S k (M ++ [(nextUpto l M h S l.length).toNat]) h; simp only [List.length_cons]; omega
      · have := rq_len l P S k M (rbest l P S M); simp only [List.length_cons]; omega
    · simp


/-- the quick instructions -/
def quickL (P S : Int) (l : List Tri) : List Tri := if chkE P l S = 0 then rq l P.toNat S.toNat (2 * l.length + 1) [] (-1) else []
theorem quick_rq {P S : Nat} {l : List Tri} (hS : 2 ≤ S) (hSP : S ≤ P) (hP : P ≤ 24) (hb : ∀ (k : Nat) (hk : k < l.length), 0 ≤ l[k].b ∧ l[k].b ≤ (P : Int) - 2) (hl : l.length ≤ 400) : qloop l P S 2000 l.length [] = rq l P S (2 * l.length + 1) [] (-1) := by
  refine qloop_rq hS hSP hP hb (by omega) l.length [] (-1) (2 * l.length + 1) List.nodup_nil (by simp) (by simp) (by simp) ?_
  have : nextUpto l [] (-1) S l.length = -1 := next_none fun j hj => by
    unfold canB heldB
    simp
  rw [this]; omega
def QuickPost (P S : Int) (l : List Tri) (w : World) (e : Ending) (w' : World) : Prop :=
  ∃ (A : Option Addr) (c : Nat), e = .returned (.tuple #[.slice A (quickL P S l).length c, .int .i64 (chkE P l S)]) ∧ RdT w' w'.heap.size A (quickL P S l) ∧ Below w.heap.size w w'

end Go.Proofs.Ytfnklchhhojimaa

namespace Go.Proofs.Ytfnklchhhojimaa
open Go Go.RowKit Tor

/-- the hands and the works behind k steps -/
def stS (l : List Tri) : Nat → Int × List Tri
  | 0 => (-1, [])
  | k + 1 => if (xAt l k).a = 1 then ((xAt l k).b, (stS l k).2) else ((stS l k).1, (stS l k).2 ++ [workOf (xAt l k)])
def errS (p s : Int) (l : List Tri) (k : Nat) : Int := doE p s (stS l k).1 (stS l k).2.length (xAt l k)
def finS (p s : Int) (l : List Tri) : Nat → Nat → Int × List Tri × Int × Int
  | 0, k => (p, (stS l k).2, 0, 0)
  | n + 1, k => if errS p s l k = 0 then finS p s l n (k + 1) else (0, [], k, errS p s l k)

/-- what Sheet returns: pairs, works, the bad step, the error -/
def sheetR (p s : Int) (l : List Tri) : Int × List Tri × Int × Int :=
  if handsE p s ≠ 0 then (0, [], 0, handsE p s) else if 1000 < l.length then (0, [], 0, 3) else finS p s l l.length 0

theorem finS_bad {p s : Int} {l : List Tri} {k : Nat} {h : Int} {d : List Tri} {e : Int} (hk : k < l.length) (hs : stS l k = (h, d)) (he : doE p s h d.length l[k] = e) (hn : e ≠ 0) : finS p s l (l.length - k) k = (0, [], (k : Int), e) := by
  obtain ⟨n, hn'⟩ : ∃ n, l.length - k = n + 1 := ⟨l.length - k - 1, by omega⟩
  have e1 : errS p s l k = e := by unfold errS; rw [hs, xAt_of hk]; exact he
  rw [hn', finS, e1, if_neg hn]
theorem finS_step {p s : Int} {l : List Tri} {k : Nat} {h : Int} {d : List Tri} (hk : k < l.length) (hs : stS l k = (h, d)) (he : doE p s h d.length l[k] = 0) : finS p s l (l.length - k) k = finS p s l (l.length - (k + 1)) (k + 1) := by
  obtain ⟨n, hn'⟩ : ∃ n, l.length - k = n + 1 := ⟨l.length - k - 1, by omega⟩
  have e1 : errS p s l k = 0 := by unfold errS; rw [hs, xAt_of hk]; exact he
  rw [hn', finS, if_pos e1]
  congr 1
  omega
theorem finS_end {p s : Int} {l : List Tri} {k : Nat} {h : Int} {d : List Tri} (hk : ¬ k < l.length) (hs : stS l k = (h, d)) : finS p s l (l.length - k) k = (p, d, 0, 0) := by
  rw [show l.length - k = 0 by omega, finS, hs]
theorem stS_reach {l : List Tri} {k : Nat} {h : Int} {d : List Tri} (hk : k < l.length) (hs : stS l k = (h, d)) (ha : l[k].a = 1) : stS l (k + 1) = (l[k].b, d) := by
  rw [stS, xAt_of hk, if_pos ha, hs]
theorem stS_work {l : List Tri} {k : Nat} {h : Int} {d : List Tri} (hk : k < l.length) (hs : stS l k = (h, d)) (ha : l[k].a ≠ 1) : stS l (k + 1) = (h, d ++ [workOf l[k]]) := by
  rw [stS, xAt_of hk, if_neg ha, hs]


/-- a step that is fine -/
structure Fine (p s h n : Int) (x : Tri) : Prop where
  sh : shapedB x = true
  w : wordE x.s = 0
  b0 : 0 ≤ x.b
  b1 : x.b ≤ p - 2
  r : x.a = 1 → x.b ≤ p - s
  held : x.a ≠ 1 → heldB h s x.b = true
  n : x.a ≠ 1 → n < 400
theorem fine_of {p s h n : Int} {x : Tri} (he : doE p s h n x = 0) : Fine p s h n x := by
  unfold doE at he
  split at he
  · cases he
  · rename_i h1
    split at he
    · rename_i h2; exact absurd he h2
    · rename_i h2
      split at he
      · cases he
      · rename_i h3
        split at he
        · cases he
        · rename_i h4
          split at he
          · cases he
          · rename_i h5
            refine ⟨by simpa using h1, by simpa using h2, by omega, by omega, by omega, fun ha => ?_, fun ha => ?_⟩
            · cases hh : heldB h s x.b
              · exact absurd ⟨ha, hh⟩ h4
              · rfl
            · rcases Int.lt_or_le n 400 with h | h
              · exact h
              · exact absurd ⟨ha, h⟩ h5
theorem fine_doE {p s h n : Int} {x : Tri} (f : Fine p s h n x) : doE p s h n x = 0 := by
  refine doE_0 f.sh f.w (by have := f.b0; have := f.b1; have := f.r; omega) ?_
  by_cases ha : x.a = 1
  · exact Or.inl ha
  · exact Or.inr ⟨f.held ha, by have := f.n ha; omega⟩


/-- steps that are fine, one after the other -/
def okS (p s : Int) : Int → Int → List Tri → Prop
  | _, _, [] => True
  | h, n, x :: r => Fine p s h n x ∧ (if x.a = 1 then okS p s x.b n r else okS p s h (n + 1) r)
def worksOf (l : List Tri) : List Tri := (l.filter fun x => decide (x.a ≠ 1)).map workOf

theorem worksOf_cons1 {x : Tri} {l : List Tri} (h : x.a = 1) : worksOf (x :: l) = worksOf l := by simp [worksOf, h]
theorem worksOf_cons2 {x : Tri} {l : List Tri} (h : x.a ≠ 1) : worksOf (x :: l) = workOf x :: worksOf l := by simp [worksOf, h]
theorem worksOf_append (a b : List Tri) : worksOf (a ++ b) = worksOf a ++ worksOf b := by simp [worksOf]

theorem finS_ok {p s : Int} : ∀ (r pre : List Tri) (h : Int), stS (pre ++ r) pre.length = (h, worksOf pre) → okS p s h (worksOf pre).length r → finS p s (pre ++ r) r.length pre.length = (p, worksOf (pre ++ r), 0, 0)
  | [], pre, h, hs, _ => by
    rw [List.append_nil] at hs ⊢
    rw [List.length_nil, finS, hs]
  | x :: r, pre, h, hs, hok => by
    have hk : pre.length < (pre ++ x :: r).length := by simp
    have hx : (pre ++ x :: r)[pre.length] = x := by simp
    have hl : (pre ++ x :: r).length - pre.length = (x :: r).length := by simp
    have e : pre ++ x :: r = (pre ++ [x]) ++ r := by simp
    unfold okS at hok
    have hd := fine_doE hok.1
    rw [← hl, finS_step hk hs (by rw [hx]; exact hd)]
    by_cases ha : x.a = 1
    · have hs2 := stS_reach hk hs (by rw [hx]; exact ha)
      rw [hx] at hs2
      have hw : worksOf (pre ++ [x]) = worksOf pre := by rw [worksOf_append, worksOf_cons1 ha]; simp [worksOf]
      have h2 := hok.2
      rw [if_pos ha] at h2
      have := finS_ok r (pre ++ [x]) x.b (by rw [← e, hw, List.length_append]; exact hs2) (by rw [hw]; exact h2)
      rw [← e, List.length_append] at this
      rw [show (pre ++ x :: r).length - (pre.length + 1) = r.length by simp; omega]
      exact this
    · have hs2 := stS_work hk hs (by rw [hx]; exact ha)
      rw [hx] at hs2
      have hw : worksOf (pre ++ [x]) = worksOf pre ++ [workOf x] := by rw [worksOf_append, worksOf_cons2 ha]; simp [worksOf]
      have h2 := hok.2
      rw [if_neg ha] at h2
      have := finS_ok r (pre ++ [x]) h (by rw [← e, hw, List.length_append]; exact hs2) (by rw [hw]; simpa using h2)
      rw [← e, List.length_append] at this
      rw [show (pre ++ x :: r).length - (pre.length + 1) = r.length by simp; omega]
      exact this
theorem sheetR_ok {p s : Int} {l : List Tri} (hh : handsE p s = 0) (hl : l.length ≤ 1000) (hok : okS p s (-1) 0 l) : sheetR p s l = (p, worksOf l, 0, 0) := by
  unfold sheetR
  rw [if_neg (by simp [hh]), if_neg (by omega)]
  exact finS_ok l [] (-1) rfl hok

/-- what is made if nothing is wrong -/
theorem finS_inv {p s : Int} : ∀ (r pre : List Tri) (h : Int) (R : Int × List Tri × Int × Int), stS (pre ++ r) pre.length = (h, worksOf pre) → finS p s (pre ++ r) r.length pre.length = R → R.2.2.2 = 0 → okS p s h (worksOf pre).length r
  | [], pre, h, R, hs, hR, h0 => trivial
  | x :: r, pre, h, R, hs, hR, h0 => by
    have hk : pre.length < (pre ++ x :: r).length := by simp
    have hx : (pre ++ x :: r)[pre.length] = x := by simp
    have hl : (pre ++ x :: r).length - pre.length = (x :: r).length := by simp
    have e : pre ++ x :: r = (pre ++ [x]) ++ r := by simp
    rw [← hl] at hR
    by_cases hd : doE p s h (worksOf pre).length x = 0
    · rw [finS_step hk hs (by rw [hx]; exact hd), show (pre ++ x :: r).length - (pre.length + 1) = r.length by simp; omega] at hR
      unfold okS
      refine ⟨fine_of hd, ?_⟩
      by_cases ha : x.a = 1
      · have hs2 := stS_reach hk hs (by rw [hx]; exact ha)
        rw [hx] at hs2
        have hw : worksOf (pre ++ [x]) = worksOf pre := by rw [worksOf_append, worksOf_cons1 ha]; simp [worksOf]
        have := finS_inv r (pre ++ [x]) x.b R (by rw [← e, hw, List.length_append]; exact hs2) (by rw [← e, List.length_append]; exact hR) h0
        rw [if_pos ha]
        rw [hw] at this
        exact this
      · have hs2 := stS_work hk hs (by rw [hx]; exact ha)
        rw [hx] at hs2
        have hw : worksOf (pre ++ [x]) = worksOf pre ++ [workOf x] := by rw [worksOf_append, worksOf_cons2 ha]; simp [worksOf]
        have := finS_inv r (pre ++ [x]) h R (by rw [← e, hw, List.length_append]; exact hs2) (by rw [← e, List.length_append]; exact hR) h0
        rw [if_neg ha]
        rw [hw] at this
        simpa using this
    · rw [finS_bad hk hs (by rw [hx]) hd] at hR
      rw [← hR] at h0
      exact absurd h0 hd
theorem sheetR_inv {p s : Int} {l : List Tri} (h0 : (sheetR p s l).2.2.2 = 0) : handsE p s = 0 ∧ l.length ≤ 1000 ∧ okS p s (-1) 0 l ∧ sheetR p s l = (p, worksOf l, 0, 0) := by
  have hh : handsE p s = 0 := Classical.byContradiction fun hh => by
    unfold sheetR at h0
    rw [if_pos hh] at h0
    exact hh h0
  have hl : l.length ≤ 1000 := Classical.byContradiction fun hl => by
    unfold sheetR at h0
    rw [if_neg (by simp [hh]), if_pos (by omega)] at h0
    cases h0
  have hok : okS p s (-1) 0 l := by
    unfold sheetR at h0
    rw [if_neg (by simp [hh]), if_neg (by omega)] at h0
    exact finS_inv l [] (-1) _ rfl rfl h0
  exact ⟨hh, hl, hok, sheetR_ok hh hl hok⟩
end Go.Proofs.Ytfnklchhhojimaa

namespace Go.Proofs.Ytfnklchhhojimaa
open Go Go.RowKit Tor

theorem do_ex (p s h n : Int) (x : Tri) (w : World) (g : Ex w) (hs : x.s.size ≤ 9223372036854775807) (b1 : 2 ≤ s) (b2 : s ≤ p) (b3 : p ≤ 24) (a1 : -1 ≤ h) (a2 : h ≤ 24) :
    Calls Try.prog 16 #[.int .i64 p, .int .i64 s, .int .i64 h, .int .i64 n, .agg #[.int .i64 x.a, .int .i64 x.b, .string x.s]] g.w (fun e w'' => e = .returned (.int .i64 (doE p s h n x)) ∧ ∃ g' : Ex w, w'' = g'.w) :=
  calls_ex (do_any p s h n x g.w hs b1 b2 b3 a1 a2)


/-- what Sheet gives -/
def SheetPost (p s : Int) (l : List Tri) (w : World) (e : Ending) (w' : World) : Prop :=
  ∃ v, e = .returned (.tuple #[.agg #[.int .i64 (sheetR p s l).1, v], .int .i64 (sheetR p s l).2.2.1, .int .i64 (sheetR p s l).2.2.2]) ∧ Own 3 Tri.enc w' w.heap.size 54 v (sheetR p s l).2.1 ∧ Below w.heap.size w w'
theorem sheetPost_bad {p s : Int} {l : List Tri} {w w' : World} {i e : Int} (h : sheetR p s l = (0, [], i, e)) (hB : Below w.heap.size w w') : SheetPost p s l w (.returned (.tuple #[.agg #[.int .i64 0, .slice none 0 0], .int .i64 i, .int .i64 e])) w' := by
  unfold SheetPost
  rw [h]
  exact ⟨.slice none 0 0, rfl, Own.nil _ _ _, hB⟩
theorem sheetR_hands {p s : Int} {l : List Tri} (h : handsE p s ≠ 0) : sheetR p s l = (0, [], 0, handsE p s) := by unfold sheetR; rw [if_pos h]
theorem sheetR_long {p s : Int} {l : List Tri} (h : handsE p s = 0) (hl : 1000 < l.length) : sheetR p s l = (0, [], 0, 3) := by unfold sheetR; rw [if_neg (by simp [h]), if_pos hl]
theorem sheetR_fin {p s : Int} {l : List Tri} (h : handsE p s = 0) (hl : ¬ 1000 < l.length) : sheetR p s l = finS p s l (l.length - 0) 0 := by unfold sheetR; rw [if_neg (by simp [h]), if_neg hl]; rfl
theorem hands_bd {p s : Int} (h : handsE p s = 0) : 2 ≤ p ∧ p ≤ 24 ∧ 2 ≤ s ∧ s ≤ 8 ∧ s ≤ p := by
  unfold handsE at h
  split at h
  · rename_i h1
    have := h1.2.2
    unfold spansB at this
    simp only [Bool.and_eq_true, decide_eq_true_eq] at this
    omega
  · cases h

theorem sheet_ret {fn : Func} {p u v : Tmp} (h : fn.results = #[.cell p 35, .tmp u, .tmp v]) {R : Ending → World → Prop} {a : Act} {w : World} {g : Nat} {x y : Value} (hp : a.tmps.getD p undef = .pointer (some ⟨g, 0, none⟩))
    (hb : Blk w g 35 #[x, y]) (hd : a.defers = []) (hR : R (.returned (.tuple #[.agg #[x, y], a.tmps.getD u undef, a.tmps.getD v undef])) w) : bodyPost Try.prog fn R .ret a w := by
  refine bodyPost_ret (v := .tuple #[.agg #[x, y], a.tmps.getD u undef, a.tmps.getD v undef]) ?_ hd hR
  have c0 := hb.cell 0 x rfl
  have c1 := hb.cell 1 y rfl
  have hp' : a.tmps[p]?.getD undef = .pointer (some ⟨g, 0, none⟩) := by simpa using hp
  simp only [results, h]
  simp [Sem.run_bind, Result.andThen, hp']
  go_simp


set_option maxRecDepth 100000 in
set_option maxHeartbeats 2000000 in
theorem rsheet_any (p s : Int) (A : Option Addr) (l : List Tri) (c : Nat) (w : World) (H : Nat) (hr : RdT w H A l) (hH : H ≤ w.heap.size)
    (hw : ∀ (k : Nat) (hk : k < l.length), l[k].s.size ≤ 9223372036854775807) (hl : l.length ≤ 100000) :
    Calls Try.prog 7 #[.int .i64 p, .int .i64 s, .slice A l.length c] w (SheetPost p s l w) := by
  obtain ⟨i0, hi0, hz0', hz1', hz2'⟩ := info_parts infoWork
  have HW := Lib.hid hw
  clear hw
  by_cases hh : handsE p s = 0
  · have hbd := hands_bd hh
    have HH := Lib.hid hh
    by_cases hlong : 1000 < l.length
    · have HR := Lib.hid (sheetR_long hh hlong)
      have hl' : (1000 : Int) < (l.length : Int) := by omega
      clear hh
      go_enter Try.func7, Try.ntmps7
      go_wp2_with (first
        | (go_at_call 15; refine (hands_any p s _).mono ?_; rintro e w1 ⟨rfl, hB1⟩; rw [HH.out]
           have kR := (Blk.new w 35 #[.int .i64 0, .slice none 0 0]).below' hB1
           have c0 := kR.cell 0 _ rfl
           have c1 := kR.cell 1 _ rfl
           have f0 := kR.frozen 0
           have f1 := kR.frozen 1
           have n1 := kR.lt
           have hBw : Below w.heap.size w w1 := Below.trans (b := w.alloc (.cells #[.int .i64 0, .slice none 0 0] 35)) (by (repeat' first | exact Below.refl _ _ | apply Below.drew | (refine Below.setCells ?_ _ _ ?_) | (refine Below.setCell ?_ ?_ _) | (refine Below.alloc ?_ ?_ _) | (simp; done) | (simp; omega))) (hB1.mono (by simp)))
        | fail)
      (try simp only [Exit.inBlock, Exit.then])
      refine sheet_ret rfl rfl (g := w.heap.size) (x := .int .i64 0) (y := .slice none 0 0) (by simpa using (kR.set_ 0 _).set_ 1 _) rfl (sheetPost_bad HR.out (by (repeat' first | assumption | exact Below.refl _ _ | apply Below.drew | (refine Below.setCells ?_ _ _ ?_) | (refine Below.setCell ?_ ?_ _) | (refine Below.alloc ?_ ?_ _) | (simp; done) | (simp; omega))))
    · have HR := Lib.hid (sheetR_fin hh hlong)
      have hl' : ¬ (1000 : Int) < (l.length : Int) := by omega
      have hl'' : l.length ≤ 1000 := by omega
      clear hh hlong
      go_enter Try.func7, Try.ntmps7
      go_wp2_with (first
        | (go_at_call 15; refine (hands_any p s _).mono ?_; rintro e w1 ⟨rfl, hB1⟩; rw [HH.out]
           have kR := (Blk.new w 35 #[.int .i64 0, .slice none 0 0]).below' hB1
           have c0 := kR.cell 0 _ rfl
           have c1 := kR.cell 1 _ rfl
           have f0 := kR.frozen 0
           have f1 := kR.frozen 1
           have n1 := kR.lt
           have hBw : Below w.heap.size w w1 := Below.trans (b := w.alloc (.cells #[.int .i64 0, .slice none 0 0] 35)) (by (repeat' first | exact Below.refl _ _ | apply Below.drew | (refine Below.setCells ?_ _ _ ?_) | (refine Below.setCell ?_ ?_ _) | (refine Below.alloc ?_ ?_ _) | (simp; done) | (simp; omega))) (hB1.mono (by simp)))
        | fail)
      go_loopw [11, 12] (fun hd k wr => ∃ (j : Nat) (h : Int) (d : List Tri) (v : Value), j ≤ l.length ∧ k = .int .i64 j ∧ hd = .int .i64 h ∧ -1 ≤ h ∧ h ≤ 24 ∧ d.length ≤ j ∧ Hid (stS l j = (h, d)) ∧ Hid (sheetR p s l = finS p s l (l.length - j) j) ∧
        Blk wr w1.heap.size 35 #[.int .i64 p, v] ∧ Blk wr w.heap.size 35 #[.int .i64 0, .slice none 0 0] ∧ Own 3 Tri.enc wr (w.heap.size + 1) 54 v d ∧ Below w.heap.size w wr) (fun _ k _ => l.length - (intOf k).toNat)
      case atStart =>
        exact ⟨0, -1, [], .slice none 0 0, Nat.zero_le _, rfl, rfl, by omega, by omega, by simp, rfl, HR, Blk.new _ _ _, kR.alloc _, Own.nil _ _ _, hBw.alloc hBw.size _⟩
      case round =>
        obtain ⟨j, h, d, v, hj, rfl, rfl, hh1, hh2, hdl, hst, hinv, hS, hR, hown, hB⟩ := hrel
        obtain ⟨Av, cv, rfl, hcv, hrd⟩ := Own.rd tri_len hown
        have s0 := hS.cell 0 _ rfl
        have s1 := hS.cell 1 _ rfl
        have g1 := hS.frozen 1
        have q0 := hR.frozen 0
        have q1 := hR.frozen 1
        have r0 := hR.cell 0 _ rfl
        have r1 := hR.cell 1 _ rfl
        have hsl := hS.lt
        have hrl := hR.lt
        have hz := hB.size
        by_cases hlt : j < l.length
        · obtain ⟨b, o, rfl, hb0, h0, h1, h2⟩ := (hr.below' hB hH).tri hlt
          have hbb := lt_of_cell h0
          have k0 : (0 : Int) ≤ (j : Int) := by omega
          have k1 : (j : Int) < (l.length : Int) := by omega
          have HWj := Lib.hid (HW.out j hlt)
          obtain ⟨E, HE⟩ : ∃ E, Hid (doE p s h d.length l[j] = E) := ⟨_, Lib.hid rfl⟩
          go_wp2_with fail
          refine wp_region_ex (by kernel_rfl) (by kernel_rfl) ?_
          repeat (go_big_quiet_step (first
            | (go_at_call 16; refine (do_ex p s h d.length l[j] _ _ HWj.out (by omega) (by omega) (by omega) (by omega) (by omega)).mono ?_; rintro e w' ⟨rfl, hg⟩; rw [HE.out]; exact ⟨rfl, hg⟩)
            | fail))
          refine wpQuiet_nil ?_
          intro _ hw'
          obtain ⟨g, hw''⟩ := hw'
          subst hw''
          have hq := g.h
          have hz2 := hq.size
          have hBq := hB.trans (hq.mono hz)
          by_cases hE : E = 0
          · have HE0 := Lib.hid (show doE p s h d.length l[j] = 0 by rw [HE.out]; exact hE)
            have hfin := Lib.hid (finS_step hlt hst.out HE0.out)
            have hf := Lib.hid (fine_of HE0.out)
            have te : (E != 0) = false := by simp [hE]
            clear hE
            by_cases ha : l[j].a = 1
            · have ta : (l[j].a == 1) = true := by simp [ha]
              have hst2 := Lib.hid (stS_reach hlt hst.out ha)
              have hbr := hf.out.r ha
              have hb0' := hf.out.b0
              clear ha
              go_wp2_with fail
              go_roundw
              case rel => exact ⟨j + 1, l[j].b, d, _, by omega, by go_num, rfl, by omega, by omega, by omega, hst2, by rw [Hid, hinv.out, hfin.out], hS.below' hq, hR.below' hq, hown.below hq, hBq⟩
              case measure => simp [intOf]; omega
            · have ta : (l[j].a == 1) = false := by simp [ha]
              have hst2 := Lib.hid (stS_work hlt hst.out ha)
              clear ha
              have kS2 := hS.below' hq
              have kR2 := hR.below' hq
              have hown2 := hown.below hq
              have k2 : RdT g.w wr.heap.size (some ⟨b, o, none⟩) l := ((hr.below' hB hH).below' hq (by omega)).more (by omega)
              clear s0 s1 g1 r0 r1 q0 q1 h0 h1 h2 hS hR hown
              obtain ⟨_, m0, m1, m2⟩ := k2.triAt hlt
              generalize g.w = W at *
              have hbW := lt_of_cell m0
              go_wp2_with fail
              refine wp_region_J (fun w' => w'.cell? ⟨b, o + j * 3, none⟩ = some (.int .i64 l[j].a) ∧ w'.cell? ⟨b, o + j * 3 + 1, none⟩ = some (.int .i64 l[j].b) ∧ w'.cell? ⟨b, o + j * 3 + 2, none⟩ = some (.string l[j].s)) (fun w' => w'.cell? ⟨w1.heap.size, 1, none⟩ = some (.slice Av d.length cv)) (fun i => i == 6 || i == 7 || i == 8) (by kernel_rfl) ?_
              have hS1 : W.drew.cell? ⟨b, o + j * 3, none⟩ = some (.int .i64 l[j].a) ∧ W.drew.cell? ⟨b, o + j * 3 + 1, none⟩ = some (.int .i64 l[j].b) ∧ W.drew.cell? ⟨b, o + j * 3 + 2, none⟩ = some (.string l[j].s) := ⟨m0, m1, m2⟩
              have hS2 : W.drew.cell? ⟨w1.heap.size, 1, none⟩ = some (.slice Av d.length cv) := kS2.cell 1 _ rfl
              refine wpAnyJ_take1 0 rfl (by kernel_rfl) (by kernel_rfl) rfl (by kernel_rfl) (fun _ _ _ h => h) (by rfl) hS1 (fun w' hSw => (by obtain ⟨u0, u1, u2⟩ := hSw; have ub := lt_of_cell u0; go_simp; try (with_reducible rfl))) ?_
              try simp only [Act.put, List.getElem_toArray, List.getElem_cons_succ, List.getElem_cons_zero, List.setIfInBounds_toArray, List.set_cons_zero, List.set_cons_succ]
              refine wpAnyJ_take1 2 rfl (by kernel_rfl) (by kernel_rfl) rfl (by kernel_rfl) (fun _ _ _ h => h) (by rfl) hS1 (fun w' hSw => (by obtain ⟨u0, u1, u2⟩ := hSw; have ub := lt_of_cell u0; go_simp; try (with_reducible rfl))) ?_
              try simp only [Act.put, List.getElem_toArray, List.getElem_cons_succ, List.getElem_cons_zero, List.setIfInBounds_toArray, List.set_cons_zero, List.set_cons_succ]
              refine wpAnyJ_take1 3 rfl (by kernel_rfl) (by kernel_rfl) rfl (by kernel_rfl) (fun _ _ _ h => h) (by rfl) hS1 (fun w' hSw => (by obtain ⟨u0, u1, u2⟩ := hSw; have ub := lt_of_cell u0; go_simp; try (with_reducible rfl))) ?_
              try simp only [Act.put, List.getElem_toArray, List.getElem_cons_succ, List.getElem_cons_zero, List.setIfInBounds_toArray, List.set_cons_zero, List.set_cons_succ]
              refine wpAnyJ_take1 4 rfl (by kernel_rfl) (by kernel_rfl) rfl (by kernel_rfl) (fun _ _ _ h => h) (by rfl) hS1 (fun w' hSw => (by obtain ⟨u0, u1, u2⟩ := hSw; have ub := lt_of_cell u0; go_simp; try (with_reducible rfl))) ?_
              try simp only [Act.put, List.getElem_toArray, List.getElem_cons_succ, List.getElem_cons_zero, List.setIfInBounds_toArray, List.set_cons_zero, List.set_cons_succ]
              refine wpAnyJ_take1 5 rfl (by kernel_rfl) (by kernel_rfl) rfl (by kernel_rfl) (fun _ _ _ h => h) (by rfl) hS1 (fun w' hSw => (by obtain ⟨u0, u1, u2⟩ := hSw; have ub := lt_of_cell u0; go_simp; try (with_reducible rfl))) ?_
              try simp only [Act.put, List.getElem_toArray, List.getElem_cons_succ, List.getElem_cons_zero, List.setIfInBounds_toArray, List.set_cons_zero, List.set_cons_succ]
              refine wpAnyJ_take2 1 rfl (by kernel_rfl) (by kernel_rfl) (by kernel_rfl) (by kernel_rfl) (fun _ _ _ h => h) (by rfl) hS1 hS2 (fun w' hSw => (by obtain ⟨_, v1⟩ := hSw; go_simp; try (with_reducible rfl))) ?_
              try simp only [Act.put, List.getElem_toArray, List.getElem_cons_succ, List.getElem_cons_zero, List.setIfInBounds_toArray, List.set_cons_zero, List.set_cons_succ]
              have hkeepS : ∀ w', Below W.heap.size W w' → w'.cell? ⟨b, o + j * 3, none⟩ = some (.int .i64 l[j].a) ∧ w'.cell? ⟨b, o + j * 3 + 1, none⟩ = some (.int .i64 l[j].b) ∧ w'.cell? ⟨b, o + j * 3 + 2, none⟩ = some (.string l[j].s) := fun w' hb => ⟨(hb.cell (p := ⟨b, _, none⟩) hbW).trans m0, (hb.cell (p := ⟨b, _, none⟩) hbW).trans m1, (hb.cell (p := ⟨b, _, none⟩) hbW).trans m2⟩
              have hA0 : Below W.heap.size W W.drew := (Below.refl _ _).drew
              refine wpAnyJ_ready [6] (by kernel_rfl) (by simp) (NextJ.cons rfl (fun K hK => ?_) NextJ.nil)
              go_simp
              refine (work_any l[j] _).mono ?_
              rintro e w6 ⟨rfl, hB6⟩
              have hA6 : Below W.heap.size W w6 := hA0.trans hB6
              refine hK.out _ _ (hkeepS _ hA6) (fun _ => (kS2.below' hA6).cell 1 _ rfl) ?_
              clear hK K
              try simp only [Act.put, List.getElem_toArray, List.getElem_cons_succ, List.getElem_cons_zero, List.setIfInBounds_toArray, List.set_cons_zero, List.set_cons_succ]
              refine wpAnyJ_ready [7] (by kernel_rfl) (by simp) (NextJ.cons rfl (fun K hK => ?_) NextJ.nil)
              go_simp
              have hA7 := hA6.alloc hA6.size (.cells #[.int .i64 (workOf l[j]).a, .int .i64 (workOf l[j]).b, .string (workOf l[j]).s] 54)
              refine hK.out _ _ (hkeepS _ hA7) (fun _ => (kS2.below' hA7).cell 1 _ rfl) ?_
              clear hK K
              try simp only [Act.put, List.getElem_toArray, List.getElem_cons_succ, List.getElem_cons_zero, List.setIfInBounds_toArray, List.set_cons_zero, List.set_cons_succ]
              refine wpAnyJ_ready [8] (by kernel_rfl) (by simp) (NextJ.cons rfl (fun K hK => ?_) NextJ.nil)
              have hsb := kS2.lt
              have hz6 := hA6.size
              refine step_append_tri (by rfl) (.tmp 61) (.tmp 67) _ (by rfl) (w.heap.size + 1) _ i0 _ Try.underlying33 hi0 hz0' hz1' hz2' rfl (.slice Av d.length cv) d (by rfl) (hown2.below hA7) w6.heap.size (workOf l[j]) (by rfl) (World.cell?_alloc_new _ _ _ 0) (World.cell?_alloc_new _ _ _ 1) (World.cell?_alloc_new _ _ _ 2) (by omega) (by simp; omega) ?_
              intro v' W8 hown8 hg8
              obtain ⟨A8, n8, c8, rfl⟩ : ∃ A n c, v' = .slice A n c := by
                obtain ⟨A8, c8, e8, _, _⟩ := Own.rd tri_len hown8
                exact ⟨A8, _, c8, e8⟩
              have hB8 : Below w.heap.size w W8 := ((hown2.base (base' := w.heap.size) (by omega)).below hA7).grown (hBq.trans (hA7.mono (by omega))) hg8 (by simp; omega)
              have kS8 := (kS2.below' hA7).grown hg8 ((hown2.below hA7).ne_block (kS2.below' hA7) (by decide))
              have kR8 := (kR2.below' hA7).grown hg8 ((hown2.below hA7).ne_block (kR2.below' hA7) (by decide))
              obtain ⟨tb, t0, t1, t2⟩ := (hr.below' hB8 hH).triAt hlt
              have hS1_8 := And.intro t0 (And.intro t1 t2)
              refine hK.out _ _ hS1_8 (fun _ => kS8.cell 1 _ rfl) ?_
              clear hK K hS1 hS2
              try simp only [Act.put, List.getElem_toArray, List.getElem_cons_succ, List.getElem_cons_zero, List.setIfInBounds_toArray, List.set_cons_zero, List.set_cons_succ]
              refine wpAnyJ_take1 9 rfl (by kernel_rfl) (by kernel_rfl) rfl (by kernel_rfl) (fun _ _ _ h => h) (by rfl) hS1_8 (fun w' hSw => (by obtain ⟨u0, u1, u2⟩ := hSw; have ub := lt_of_cell u0; go_simp; try (with_reducible rfl))) ?_
              try simp only [Act.put, List.getElem_toArray, List.getElem_cons_succ, List.getElem_cons_zero, List.setIfInBounds_toArray, List.set_cons_zero, List.set_cons_succ]
              refine wpAnyJ_ready [10] (by kernel_rfl) (by simp) (NextJ.cons rfl (fun K hK => ?_) NextJ.nil)
              have c81 := kS8.cell 1 _ rfl
              have f81 := kS8.frozen 1
              have l81 := kS8.lt
              go_simp
              have hB9 := hB8.setCell (p := ⟨w1.heap.size, 1, none⟩) (by simp; omega) (.slice A8 n8 c8)
              obtain ⟨tb, t0, t1, t2⟩ := (hr.below' hB9 hH).triAt hlt
              refine hK.out _ _ ⟨t0, t1, t2⟩ (fun h => absurd h (by decide)) ?_
              clear hK K
              try simp only [Act.put, List.getElem_toArray, List.getElem_cons_succ, List.getElem_cons_zero, List.setIfInBounds_toArray, List.set_cons_zero, List.set_cons_succ]
              refine wpAnyJ_done (by kernel_rfl) ?_ _
              clear hS1_8 c81 f81 l81 t0 t1 t2
              go_wp2_with fail
              go_roundw
              case rel => exact ⟨j + 1, h, d ++ [workOf l[j]], .slice A8 n8 c8, by omega, by go_num, rfl, by omega, by omega, by simp; omega, hst2, by rw [Hid, hinv.out, hfin.out], by simpa using kS8.set_ 1 (.slice A8 n8 c8), kR8.far (by simp; omega) _, ownsRow_setCell_other hown8 (hown8.ne_block kS8 (by decide)).symm _, hB9⟩
              case measure => simp [intOf]; omega
          · have HEn := Lib.hid (show doE p s h d.length l[j] = E from HE.out)
            have te : (E != 0) = true := by simp [hE]
            have kR2 := hR.below' hq
            have v0 := kR2.frozen 0
            have v1 := kR2.frozen 1
            have v2 := kR2.cell 0 _ rfl
            have v3 := kR2.cell 1 _ rfl
            have v4 := kR2.lt
            have hfin := Lib.hid (finS_bad hlt hst.out HEn.out hE)
            clear hE
            go_wp2_with fail
            (try simp only [Exit.inBlock, Exit.then])
            refine sheet_ret rfl rfl (g := w.heap.size) (x := .int .i64 0) (y := .slice none 0 0) (by simpa using ((hR.below' hq).set_ 0 (.int .i64 0)).set_ 1 (.slice none 0 0)) rfl ?_
            exact sheetPost_bad (by rw [hinv.out, hfin.out]) (by (repeat' first | assumption | exact Below.refl _ _ | apply Below.drew | (refine Below.setCells ?_ _ _ ?_) | (refine Below.setCell ?_ ?_ _) | (refine Below.alloc ?_ ?_ _) | (simp; done) | (simp; omega)))
        · have hfin := Lib.hid (finS_end hlt hst.out (p := p) (s := s))
          go_wp2_with fail
          (try simp only [Exit.inBlock, Exit.then])
          refine sheet_ret rfl rfl (g := w.heap.size) (x := .int .i64 p) (y := .slice Av d.length cv) (by simpa using (hR.set_ 0 (.int .i64 p)).set_ 1 (.slice Av d.length cv)) rfl ?_
          unfold SheetPost
          rw [hinv.out, hfin.out]
          refine ⟨_, rfl, ?_, by (repeat' first | assumption | exact Below.refl _ _ | apply Below.drew | (refine Below.setCells ?_ _ _ ?_) | (refine Below.setCell ?_ ?_ _) | (refine Below.alloc ?_ ?_ _) | (simp; done) | (simp; omega))⟩
          exact Own.base (ownsRow_setCell_below (ownsRow_setCell_below hown (by simp) _) (by simp) _) (by omega)
  · obtain ⟨E, HH⟩ : ∃ E, Hid (handsE p s = E) := ⟨_, Lib.hid rfl⟩
    have HR := Lib.hid (sheetR_hands (l := l) hh)
    rw [HH.out] at hh
    have te : (E != 0) = true := by simp [hh]
    go_enter Try.func7, Try.ntmps7
    go_wp2_with (first
        | (go_at_call 15; refine (hands_any p s _).mono ?_; rintro e w1 ⟨rfl, hB1⟩; rw [HH.out]
           have kR := (Blk.new w 35 #[.int .i64 0, .slice none 0 0]).below' hB1
           have c0 := kR.cell 0 _ rfl
           have c1 := kR.cell 1 _ rfl
           have f0 := kR.frozen 0
           have f1 := kR.frozen 1
           have n1 := kR.lt
           have hBw : Below w.heap.size w w1 := Below.trans (b := w.alloc (.cells #[.int .i64 0, .slice none 0 0] 35)) (by (repeat' first | exact Below.refl _ _ | apply Below.drew | (refine Below.setCells ?_ _ _ ?_) | (refine Below.setCell ?_ ?_ _) | (refine Below.alloc ?_ ?_ _) | (simp; done) | (simp; omega))) (hB1.mono (by simp)))
        | fail)
    (try simp only [Exit.inBlock, Exit.then])
    refine sheet_ret rfl rfl (g := w.heap.size) (x := .int .i64 0) (y := .slice none 0 0) (by simpa using (kR.set_ 0 (.int .i64 0)).set_ 1 (.slice none 0 0)) rfl ?_
    exact sheetPost_bad (by rw [HR.out, HH.out]) (by (repeat' first | assumption | exact Below.refl _ _ | apply Below.drew | (refine Below.setCells ?_ _ _ ?_) | (refine Below.setCell ?_ ?_ _) | (refine Below.alloc ?_ ?_ _) | (simp; done) | (simp; omega)))
end Go.Proofs.Ytfnklchhhojimaa

namespace Go.Proofs.Ytfnklchhhojimaa
open Go Go.RowKit Tor

/-- where the program says that the hands lie -/
def hv (s h : Int) : Int := if h < 0 then -s else h

theorem hv_held {s h b : Int} (hh : -1 ≤ h) (hs : 2 ≤ s) (hb : 0 ≤ b) : heldB h s b = true ↔ hv s h ≤ b ∧ b + 1 < hv s h + s := by
  rw [held_iff]
  unfold hv
  split <;> omega


set_option maxRecDepth 100000 in
set_option maxHeartbeats 4000000 in
theorem csheet_any (p s : Int) (A : Option Addr) (l : List Tri) (c : Nat) (w : World) (H : Nat) (hr : RdT w H A l) (hH : H ≤ w.heap.size)
    (hw : ∀ (k : Nat) (hk : k < l.length), l[k].s.size ≤ 9223372036854775807) (hl : l.length ≤ 100000) :
    Calls Try.prog 24 #[.int .i64 p, .int .i64 s, .slice A l.length c] w (SheetPost p s l w) := by
  obtain ⟨i0, hi0, hz0', hz1', hz2'⟩ := info_parts infoWork
  have HW := Lib.hid hw
  clear hw
  rcases (show p < 2 ∨ (¬ p < 2 ∧ 24 < p) ∨ (¬ p < 2 ∧ ¬ 24 < p ∧ spansB p s = false) ∨ (¬ p < 2 ∧ ¬ 24 < p ∧ spansB p s = true) from by
    cases spansB p s <;> simp <;> omega) with h1 | ⟨h1, h2⟩ | ⟨h1, h2, h3⟩ | ⟨h1, h2, h3⟩
  · have HR := Lib.hid (sheetR_hands (p := p) (s := s) (l := l) (by unfold handsE; rw [if_neg (by omega)]; decide))
    have HE := Lib.hid (show handsE p s = 7 by unfold handsE; rw [if_neg (by omega)])
    go_enter Try.func24, Try.ntmps24
    go_wp2_with fail
    (try simp only [Exit.inBlock, Exit.then])
    have kR := Blk.new w 35 #[.int .i64 0, .slice none 0 0]
    refine sheet_ret rfl rfl (g := w.heap.size) (x := .int .i64 0) (y := .slice none 0 0) (by simpa using kR) rfl ?_
    exact sheetPost_bad (by rw [HR.out, HE.out]) (by (repeat' first | assumption | exact Below.refl _ _ | apply Below.drew | (refine Below.setCells ?_ _ _ ?_) | (refine Below.setCell ?_ ?_ _) | (refine Below.alloc ?_ ?_ _) | (simp; done) | (simp; omega)))
  · have HR := Lib.hid (sheetR_hands (p := p) (s := s) (l := l) (by unfold handsE; rw [if_neg (by omega)]; decide))
    have HE := Lib.hid (show handsE p s = 7 by unfold handsE; rw [if_neg (by omega)])
    go_enter Try.func24, Try.ntmps24
    go_wp2_with fail
    (try simp only [Exit.inBlock, Exit.then])
    have kR := Blk.new w 35 #[.int .i64 0, .slice none 0 0]
    refine sheet_ret rfl rfl (g := w.heap.size) (x := .int .i64 0) (y := .slice none 0 0) (by simpa using kR) rfl ?_
    exact sheetPost_bad (by rw [HR.out, HE.out]) (by (repeat' first | assumption | exact Below.refl _ _ | apply Below.drew | (refine Below.setCells ?_ _ _ ?_) | (refine Below.setCell ?_ ?_ _) | (refine Below.alloc ?_ ?_ _) | (simp; done) | (simp; omega)))
  · have HR := Lib.hid (sheetR_hands (p := p) (s := s) (l := l) (by unfold handsE; rw [if_neg (by simp [h3])]; decide))
    have HE := Lib.hid (show handsE p s = 7 by unfold handsE; rw [if_neg (by simp [h3])])
    have HSP := Lib.hid h3
    clear h3
    go_enter Try.func24, Try.ntmps24
    go_wp2_with (first
          | (go_at_call 57; refine (cspans_any p s _).mono ?_; rintro e w1 ⟨rfl, hB1⟩; rw [HSP.out]
             have kR := (Blk.new w 35 #[.int .i64 0, .slice none 0 0]).below' hB1
             have c0 := kR.cell 0 _ rfl
             have c1 := kR.cell 1 _ rfl
             have f0 := kR.frozen 0
             have f1 := kR.frozen 1
             have n1 := kR.lt
             have hBw : Below w.heap.size w w1 := Below.trans (b := w.alloc (.cells #[.int .i64 0, .slice none 0 0] 35)) (by (repeat' first | exact Below.refl _ _ | apply Below.drew | (refine Below.setCells ?_ _ _ ?_) | (refine Below.setCell ?_ ?_ _) | (refine Below.alloc ?_ ?_ _) | (simp; done) | (simp; omega))) (hB1.mono (by simp)))
          | fail)
    (try simp only [Exit.inBlock, Exit.then])
    refine sheet_ret rfl rfl (g := w.heap.size) (x := .int .i64 0) (y := .slice none 0 0) (by simpa using (kR.set_ 0 (.int .i64 0)).set_ 1 (.slice none 0 0)) rfl ?_
    exact sheetPost_bad (by rw [HR.out, HE.out]) (by (repeat' first | assumption | exact Below.refl _ _ | apply Below.drew | (refine Below.setCells ?_ _ _ ?_) | (refine Below.setCell ?_ ?_ _) | (refine Below.alloc ?_ ?_ _) | (simp; done) | (simp; omega)))
  · have hh : handsE p s = 0 := by unfold handsE; rw [if_pos ⟨by omega, by omega, h3⟩]
    have hbd := hands_bd hh
    have HSP := Lib.hid h3
    clear h3
    by_cases hlong : 1000 < l.length
    · have HR := Lib.hid (sheetR_long hh hlong)
      have hl' : (1000 : Int) < (l.length : Int) := by omega
      clear hh
      go_enter Try.func24, Try.ntmps24
      go_wp2_with (first
        | (go_at_call 57; refine (cspans_any p s _).mono ?_; rintro e w1 ⟨rfl, hB1⟩; rw [HSP.out]
           have kR := (Blk.new w 35 #[.int .i64 0, .slice none 0 0]).below' hB1
           have c0 := kR.cell 0 _ rfl
           have c1 := kR.cell 1 _ rfl
           have f0 := kR.frozen 0
           have f1 := kR.frozen 1
           have n1 := kR.lt
           have hBw : Below w.heap.size w w1 := Below.trans (b := w.alloc (.cells #[.int .i64 0, .slice none 0 0] 35)) (by (repeat' first | exact Below.refl _ _ | apply Below.drew | (refine Below.setCells ?_ _ _ ?_) | (refine Below.setCell ?_ ?_ _) | (refine Below.alloc ?_ ?_ _) | (simp; done) | (simp; omega))) (hB1.mono (by simp)))
        | fail)
      (try simp only [Exit.inBlock, Exit.then])
      refine sheet_ret rfl rfl (g := w.heap.size) (x := .int .i64 0) (y := .slice none 0 0) (by simpa using (kR.set_ 0 (.int .i64 0)).set_ 1 (.slice none 0 0)) rfl ?_
      exact sheetPost_bad HR.out (by (repeat' first | assumption | exact Below.refl _ _ | apply Below.drew | (refine Below.setCells ?_ _ _ ?_) | (refine Below.setCell ?_ ?_ _) | (refine Below.alloc ?_ ?_ _) | (simp; done) | (simp; omega)))
    · have HR := Lib.hid (sheetR_fin hh hlong)
      have hl' : ¬ (1000 : Int) < (l.length : Int) := by omega
      have hl'' : l.length ≤ 1000 := by omega
      clear hh hlong
      go_enter Try.func24, Try.ntmps24
      go_wp2_with (first
        | (go_at_call 57; refine (cspans_any p s _).mono ?_; rintro e w1 ⟨rfl, hB1⟩; rw [HSP.out]
           have kR := (Blk.new w 35 #[.int .i64 0, .slice none 0 0]).below' hB1
           have c0 := kR.cell 0 _ rfl
           have c1 := kR.cell 1 _ rfl
           have f0 := kR.frozen 0
           have f1 := kR.frozen 1
           have n1 := kR.lt
           have hBw : Below w.heap.size w w1 := Below.trans (b := w.alloc (.cells #[.int .i64 0, .slice none 0 0] 35)) (by (repeat' first | exact Below.refl _ _ | apply Below.drew | (refine Below.setCells ?_ _ _ ?_) | (refine Below.setCell ?_ ?_ _) | (refine Below.alloc ?_ ?_ _) | (simp; done) | (simp; omega))) (hB1.mono (by simp)))
        | fail)
      go_loopw [9, 10, 36] (fun hd mv k wr => ∃ (j : Nat) (h : Int) (d : List Tri), j ≤ l.length ∧ k = .int .i64 j ∧ hd = .int .i64 (hv s h) ∧ -1 ≤ h ∧ h ≤ 24 ∧ d.length ≤ 400 ∧ Hid (stS l j = (h, d)) ∧ Hid (sheetR p s l = finS p s l (l.length - j) j) ∧
        Blk wr w.heap.size 35 #[.int .i64 0, .slice none 0 0] ∧ Own 3 Tri.enc wr (w.heap.size + 1) 54 mv d ∧ Below w.heap.size w wr) (fun _ _ k _ => l.length - (intOf k).toNat)
      case atStart =>
        exact ⟨0, -1, [], Nat.zero_le _, rfl, by simp [hv], by omega, by omega, by simp, rfl, HR, kR, Own.nil _ _ _, hBw⟩
      case round =>
        obtain ⟨j, h, d, hj, rfl, rfl, hh1, hh2, hdl, hst, hinv, hR, hown, hB⟩ := hrel
        obtain ⟨Av, cv, rfl, hcv, hrd⟩ := Own.rd tri_len hown
        have hz := hB.size
        have hrl := hR.lt
        obtain ⟨V, hV⟩ : ∃ V, Hid (hv s h = V) := ⟨_, Lib.hid rfl⟩
        rw [hV.out]
        have hVb : -8 ≤ V ∧ V ≤ 24 := by rw [← hV.out]; unfold hv; split <;> omega
        by_cases hlt : j < l.length
        · obtain ⟨b, o, rfl, hb0, h0, h1', h2'⟩ := (hr.below' hB hH).tri hlt
          have hbb := lt_of_cell h0
          have k0 : (0 : Int) ≤ (j : Int) := by omega
          have k1 : (j : Int) < (l.length : Int) := by omega
          have HWj := Lib.hid (HW.out j hlt)
          cases hsh : shapedB l[j]
          · have HS := Lib.hid hsh
            have hfin := Lib.hid (finS_bad hlt hst.out (doE_sh (p := p) (s := s) (h := h) (n := d.length) hsh) (by decide))
            have HE := HS
            clear hsh
            go_wp2_with (first
          | (go_at_call 58; refine (cshaped_any l[j] _).mono ?_; rintro e w2 ⟨rfl, hB2⟩; rw [HS.out]
             have kX := (Blk.new wr 45 #[.int .i64 l[j].a, .int .i64 l[j].b, .string l[j].s]).below' hB2
             have hq2 : Below wr.heap.size wr w2 := Below.trans (b := wr.alloc (.cells #[.int .i64 l[j].a, .int .i64 l[j].b, .string l[j].s] 45)) (by (repeat' first | exact Below.refl _ _ | apply Below.drew | (refine Below.setCells ?_ _ _ ?_) | (refine Below.setCell ?_ ?_ _) | (refine Below.alloc ?_ ?_ _) | (simp; done) | (simp; omega))) (hB2.mono (by simp))
             have kR := hR.below' hq2
             have a0 := kX.cell 0 _ rfl
             have a1 := kX.cell 1 _ rfl
             have a2 := kX.cell 2 _ rfl
             have a3 := kX.lt
             have r0 := kR.cell 0 _ rfl
             have r1 := kR.cell 1 _ rfl
             have q0 := kR.frozen 0
             have q1 := kR.frozen 1
             have rl := kR.lt)
          | (go_at_call 59; refine (word_any l[j].s _ HWj.out).mono ?_; rintro e w3 ⟨rfl, hB3⟩; rw [HE.out]
             have kX3 := kX.below' hB3
             have hq3 : Below wr.heap.size wr w3 := hq2.trans (hB3.mono hq2.size)
             have kR3 := hR.below' hq3
             have b0' := kX3.cell 0 _ rfl
             have b1' := kX3.cell 1 _ rfl
             have b2' := kX3.cell 2 _ rfl
             have b3' := kX3.lt
             have r0' := kR3.cell 0 _ rfl
             have r1' := kR3.cell 1 _ rfl
             have q0' := kR3.frozen 0
             have q1' := kR3.frozen 1
             have rl' := kR3.lt
             have hown3 := hown.below hq3
             have hz3 := hq3.size)
          | (at_builtin; refine wpList_append_tri rfl (.tmp 57) (.tmp 63) _ rfl (w.heap.size + 1) _ i0 _ Try.underlying33 hi0 hz0' hz1' hz2' rfl _ d rfl (hown3.alloc _) w3.heap.size (workOf l[j]) rfl (World.cell?_alloc_new _ _ _ 0) (World.cell?_alloc_new _ _ _ 1) (World.cell?_alloc_new _ _ _ 2) (by omega) (by simp; omega) ?_; intro v8 w8 hown8 hg8))
            (try simp only [Exit.inBlock, Exit.then])
            refine sheet_ret rfl rfl (g := w.heap.size) (x := .int .i64 0) (y := .slice none 0 0) (by simpa using (kR.set_ 0 (.int .i64 0)).set_ 1 (.slice none 0 0)) rfl ?_
            have hBf := hB.trans (hq2.mono hz)
            exact sheetPost_bad (by rw [hinv.out, hfin.out]) (by (repeat' first | assumption | exact Below.refl _ _ | apply Below.drew | (refine Below.setCells ?_ _ _ ?_) | (refine Below.setCell ?_ ?_ _) | (refine Below.alloc ?_ ?_ _) | (simp; done) | (simp; omega)))
          · by_cases hw0 : wordE l[j].s = 0
            · have HE := Lib.hid hw0
              have HS := Lib.hid hsh
              rcases (show (l[j].b < 0) ∨ (¬ l[j].b < 0 ∧ p - 2 < l[j].b) ∨ (¬ l[j].b < 0 ∧ ¬ p - 2 < l[j].b ∧ l[j].a = 1 ∧ p - s < l[j].b) ∨ (¬ l[j].b < 0 ∧ ¬ p - 2 < l[j].b ∧ l[j].a = 1 ∧ ¬ p - s < l[j].b) ∨
                (¬ l[j].b < 0 ∧ ¬ p - 2 < l[j].b ∧ l[j].a ≠ 1 ∧ l[j].b < V) ∨ (¬ l[j].b < 0 ∧ ¬ p - 2 < l[j].b ∧ l[j].a ≠ 1 ∧ ¬ l[j].b < V ∧ V + s ≤ l[j].b + 1) ∨
                (¬ l[j].b < 0 ∧ ¬ p - 2 < l[j].b ∧ l[j].a ≠ 1 ∧ ¬ l[j].b < V ∧ ¬ V + s ≤ l[j].b + 1 ∧ (d.length : Int) = 400) ∨
                (¬ l[j].b < 0 ∧ ¬ p - 2 < l[j].b ∧ l[j].a ≠ 1 ∧ ¬ l[j].b < V ∧ ¬ V + s ≤ l[j].b + 1 ∧ ¬ (d.length : Int) = 400 ∧ l[j].a = 3) ∨
                (¬ l[j].b < 0 ∧ ¬ p - 2 < l[j].b ∧ l[j].a ≠ 1 ∧ ¬ l[j].b < V ∧ ¬ V + s ≤ l[j].b + 1 ∧ ¬ (d.length : Int) = 400 ∧ l[j].a ≠ 3) from by omega) with
                  x1 | ⟨x1, x2⟩ | ⟨x1, x2, x3, x4⟩ | ⟨x1, x2, x3, x4⟩ | ⟨x1, x2, x3, x4⟩ | ⟨x1, x2, x3, x4, x5⟩ | ⟨x1, x2, x3, x4, x5, x6⟩ | ⟨x1, x2, x3, x4, x5, x6, x7⟩ | ⟨x1, x2, x3, x4, x5, x6, x7⟩
              · have hfin := Lib.hid (finS_bad hlt hst.out (doE_r (p := p) (s := s) (h := h) (n := d.length) hsh hw0 (by omega)) (by decide))
                clear hsh hw0
                go_wp2_with (first
              | (go_at_call 58; refine (cshaped_any l[j] _).mono ?_; rintro e w2 ⟨rfl, hB2⟩; rw [HS.out]
                 have kX := (Blk.new wr 45 #[.int .i64 l[j].a, .int .i64 l[j].b, .string l[j].s]).below' hB2
                 have hq2 : Below wr.heap.size wr w2 := Below.trans (b := wr.alloc (.cells #[.int .i64 l[j].a, .int .i64 l[j].b, .string l[j].s] 45)) (by (repeat' first | exact Below.refl _ _ | apply Below.drew | (refine Below.setCells ?_ _ _ ?_) | (refine Below.setCell ?_ ?_ _) | (refine Below.alloc ?_ ?_ _) | (simp; done) | (simp; omega))) (hB2.mono (by simp))
                 have kR := hR.below' hq2
                 have a0 := kX.cell 0 _ rfl
                 have a1 := kX.cell 1 _ rfl
                 have a2 := kX.cell 2 _ rfl
                 have a3 := kX.lt
                 have r0 := kR.cell 0 _ rfl
                 have r1 := kR.cell 1 _ rfl
                 have q0 := kR.frozen 0
                 have q1 := kR.frozen 1
                 have rl := kR.lt)
              | (go_at_call 59; refine (word_any l[j].s _ HWj.out).mono ?_; rintro e w3 ⟨rfl, hB3⟩; rw [HE.out]
                 have kX3 := kX.below' hB3
                 have hq3 : Below wr.heap.size wr w3 := hq2.trans (hB3.mono hq2.size)
                 have kR3 := hR.below' hq3
                 have b0' := kX3.cell 0 _ rfl
                 have b1' := kX3.cell 1 _ rfl
                 have b2' := kX3.cell 2 _ rfl
                 have b3' := kX3.lt
                 have r0' := kR3.cell 0 _ rfl
                 have r1' := kR3.cell 1 _ rfl
                 have q0' := kR3.frozen 0
                 have q1' := kR3.frozen 1
                 have rl' := kR3.lt
                 have hown3 := hown.below hq3
                 have hz3 := hq3.size)
              | (at_builtin; refine wpList_append_tri rfl (.tmp 57) (.tmp 63) _ rfl (w.heap.size + 1) _ i0 _ Try.underlying33 hi0 hz0' hz1' hz2' rfl _ d rfl (hown3.alloc _) w3.heap.size (workOf l[j]) rfl (World.cell?_alloc_new _ _ _ 0) (World.cell?_alloc_new _ _ _ 1) (World.cell?_alloc_new _ _ _ 2) (by omega) (by simp; omega) ?_; intro v8 w8 hown8 hg8))
                (try simp only [Exit.inBlock, Exit.then])
                refine sheet_ret rfl rfl (g := w.heap.size) (x := .int .i64 0) (y := .slice none 0 0) (by simpa using (kR3.set_ 0 (.int .i64 0)).set_ 1 (.slice none 0 0)) rfl ?_
                have hBf := hB.trans (hq3.mono hz)
                exact sheetPost_bad (by rw [hinv.out, hfin.out]) (by (repeat' first | assumption | exact Below.refl _ _ | apply Below.drew | (refine Below.setCells ?_ _ _ ?_) | (refine Below.setCell ?_ ?_ _) | (refine Below.alloc ?_ ?_ _) | (simp; done) | (simp; omega)))
              · have hfin := Lib.hid (finS_bad hlt hst.out (doE_r (p := p) (s := s) (h := h) (n := d.length) hsh hw0 (by omega)) (by decide))
                clear hsh hw0
                go_wp2_with (first
              | (go_at_call 58; refine (cshaped_any l[j] _).mono ?_; rintro e w2 ⟨rfl, hB2⟩; rw [HS.out]
                 have kX := (Blk.new wr 45 #[.int .i64 l[j].a, .int .i64 l[j].b, .string l[j].s]).below' hB2
                 have hq2 : Below wr.heap.size wr w2 := Below.trans (b := wr.alloc (.cells #[.int .i64 l[j].a, .int .i64 l[j].b, .string l[j].s] 45)) (by (repeat' first | exact Below.refl _ _ | apply Below.drew | (refine Below.setCells ?_ _ _ ?_) | (refine Below.setCell ?_ ?_ _) | (refine Below.alloc ?_ ?_ _) | (simp; done) | (simp; omega))) (hB2.mono (by simp))
                 have kR := hR.below' hq2
                 have a0 := kX.cell 0 _ rfl
                 have a1 := kX.cell 1 _ rfl
                 have a2 := kX.cell 2 _ rfl
                 have a3 := kX.lt
                 have r0 := kR.cell 0 _ rfl
                 have r1 := kR.cell 1 _ rfl
                 have q0 := kR.frozen 0
                 have q1 := kR.frozen 1
                 have rl := kR.lt)
              | (go_at_call 59; refine (word_any l[j].s _ HWj.out).mono ?_; rintro e w3 ⟨rfl, hB3⟩; rw [HE.out]
                 have kX3 := kX.below' hB3
                 have hq3 : Below wr.heap.size wr w3 := hq2.trans (hB3.mono hq2.size)
                 have kR3 := hR.below' hq3
                 have b0' := kX3.cell 0 _ rfl
                 have b1' := kX3.cell 1 _ rfl
                 have b2' := kX3.cell 2 _ rfl
                 have b3' := kX3.lt
                 have r0' := kR3.cell 0 _ rfl
                 have r1' := kR3.cell 1 _ rfl
                 have q0' := kR3.frozen 0
                 have q1' := kR3.frozen 1
                 have rl' := kR3.lt
                 have hown3 := hown.below hq3
                 have hz3 := hq3.size)
              | (at_builtin; refine wpList_append_tri rfl (.tmp 57) (.tmp 63) _ rfl (w.heap.size + 1) _ i0 _ Try.underlying33 hi0 hz0' hz1' hz2' rfl _ d rfl (hown3.alloc _) w3.heap.size (workOf l[j]) rfl (World.cell?_alloc_new _ _ _ 0) (World.cell?_alloc_new _ _ _ 1) (World.cell?_alloc_new _ _ _ 2) (by omega) (by simp; omega) ?_; intro v8 w8 hown8 hg8))
                (try simp only [Exit.inBlock, Exit.then])
                refine sheet_ret rfl rfl (g := w.heap.size) (x := .int .i64 0) (y := .slice none 0 0) (by simpa using (kR3.set_ 0 (.int .i64 0)).set_ 1 (.slice none 0 0)) rfl ?_
                have hBf := hB.trans (hq3.mono hz)
                exact sheetPost_bad (by rw [hinv.out, hfin.out]) (by (repeat' first | assumption | exact Below.refl _ _ | apply Below.drew | (refine Below.setCells ?_ _ _ ?_) | (refine Below.setCell ?_ ?_ _) | (refine Below.alloc ?_ ?_ _) | (simp; done) | (simp; omega)))
              · have hfin := Lib.hid (finS_bad hlt hst.out (doE_r (p := p) (s := s) (h := h) (n := d.length) hsh hw0 (by omega)) (by decide))
                have t3 : (l[j].a == 1) = true := by simp [x3]
                clear hsh hw0 x3
                go_wp2_with (first
              | (go_at_call 58; refine (cshaped_any l[j] _).mono ?_; rintro e w2 ⟨rfl, hB2⟩; rw [HS.out]
                 have kX := (Blk.new wr 45 #[.int .i64 l[j].a, .int .i64 l[j].b, .string l[j].s]).below' hB2
                 have hq2 : Below wr.heap.size wr w2 := Below.trans (b := wr.alloc (.cells #[.int .i64 l[j].a, .int .i64 l[j].b, .string l[j].s] 45)) (by (repeat' first | exact Below.refl _ _ | apply Below.drew | (refine Below.setCells ?_ _ _ ?_) | (refine Below.setCell ?_ ?_ _) | (refine Below.alloc ?_ ?_ _) | (simp; done) | (simp; omega))) (hB2.mono (by simp))
                 have kR := hR.below' hq2
                 have a0 := kX.cell 0 _ rfl
                 have a1 := kX.cell 1 _ rfl
                 have a2 := kX.cell 2 _ rfl
                 have a3 := kX.lt
                 have r0 := kR.cell 0 _ rfl
                 have r1 := kR.cell 1 _ rfl
                 have q0 := kR.frozen 0
                 have q1 := kR.frozen 1
                 have rl := kR.lt)
              | (go_at_call 59; refine (word_any l[j].s _ HWj.out).mono ?_; rintro e w3 ⟨rfl, hB3⟩; rw [HE.out]
                 have kX3 := kX.below' hB3
                 have hq3 : Below wr.heap.size wr w3 := hq2.trans (hB3.mono hq2.size)
                 have kR3 := hR.below' hq3
                 have b0' := kX3.cell 0 _ rfl
                 have b1' := kX3.cell 1 _ rfl
                 have b2' := kX3.cell 2 _ rfl
                 have b3' := kX3.lt
                 have r0' := kR3.cell 0 _ rfl
                 have r1' := kR3.cell 1 _ rfl
                 have q0' := kR3.frozen 0
                 have q1' := kR3.frozen 1
                 have rl' := kR3.lt
                 have hown3 := hown.below hq3
                 have hz3 := hq3.size)
              | (at_builtin; refine wpList_append_tri rfl (.tmp 57) (.tmp 63) _ rfl (w.heap.size + 1) _ i0 _ Try.underlying33 hi0 hz0' hz1' hz2' rfl _ d rfl (hown3.alloc _) w3.heap.size (workOf l[j]) rfl (World.cell?_alloc_new _ _ _ 0) (World.cell?_alloc_new _ _ _ 1) (World.cell?_alloc_new _ _ _ 2) (by omega) (by simp; omega) ?_; intro v8 w8 hown8 hg8))
                (try simp only [Exit.inBlock, Exit.then])
                refine sheet_ret rfl rfl (g := w.heap.size) (x := .int .i64 0) (y := .slice none 0 0) (by simpa using (kR3.set_ 0 (.int .i64 0)).set_ 1 (.slice none 0 0)) rfl ?_
                have hBf := hB.trans (hq3.mono hz)
                exact sheetPost_bad (by rw [hinv.out, hfin.out]) (by (repeat' first | assumption | exact Below.refl _ _ | apply Below.drew | (refine Below.setCells ?_ _ _ ?_) | (refine Below.setCell ?_ ?_ _) | (refine Below.alloc ?_ ?_ _) | (simp; done) | (simp; omega)))
              · have hd0 := doE_0 (p := p) (s := s) (h := h) (n := d.length) hsh hw0 (by omega) (Or.inl x3)
                have hfin := Lib.hid (finS_step hlt hst.out hd0)
                have hst2 := Lib.hid (stS_reach hlt hst.out x3)
                have t3 : (l[j].a == 1) = true := by simp [x3]
                clear hsh hw0 x3 hd0
                go_wp2_with (first
              | (go_at_call 58; refine (cshaped_any l[j] _).mono ?_; rintro e w2 ⟨rfl, hB2⟩; rw [HS.out]
                 have kX := (Blk.new wr 45 #[.int .i64 l[j].a, .int .i64 l[j].b, .string l[j].s]).below' hB2
                 have hq2 : Below wr.heap.size wr w2 := Below.trans (b := wr.alloc (.cells #[.int .i64 l[j].a, .int .i64 l[j].b, .string l[j].s] 45)) (by (repeat' first | exact Below.refl _ _ | apply Below.drew | (refine Below.setCells ?_ _ _ ?_) | (refine Below.setCell ?_ ?_ _) | (refine Below.alloc ?_ ?_ _) | (simp; done) | (simp; omega))) (hB2.mono (by simp))
                 have kR := hR.below' hq2
                 have a0 := kX.cell 0 _ rfl
                 have a1 := kX.cell 1 _ rfl
                 have a2 := kX.cell 2 _ rfl
                 have a3 := kX.lt
                 have r0 := kR.cell 0 _ rfl
                 have r1 := kR.cell 1 _ rfl
                 have q0 := kR.frozen 0
                 have q1 := kR.frozen 1
                 have rl := kR.lt)
              | (go_at_call 59; refine (word_any l[j].s _ HWj.out).mono ?_; rintro e w3 ⟨rfl, hB3⟩; rw [HE.out]
                 have kX3 := kX.below' hB3
                 have hq3 : Below wr.heap.size wr w3 := hq2.trans (hB3.mono hq2.size)
                 have kR3 := hR.below' hq3
                 have b0' := kX3.cell 0 _ rfl
                 have b1' := kX3.cell 1 _ rfl
                 have b2' := kX3.cell 2 _ rfl
                 have b3' := kX3.lt
                 have r0' := kR3.cell 0 _ rfl
                 have r1' := kR3.cell 1 _ rfl
                 have q0' := kR3.frozen 0
                 have q1' := kR3.frozen 1
                 have rl' := kR3.lt
                 have hown3 := hown.below hq3
                 have hz3 := hq3.size)
              | (at_builtin; refine wpList_append_tri rfl (.tmp 57) (.tmp 63) _ rfl (w.heap.size + 1) _ i0 _ Try.underlying33 hi0 hz0' hz1' hz2' rfl _ d rfl (hown3.alloc _) w3.heap.size (workOf l[j]) rfl (World.cell?_alloc_new _ _ _ 0) (World.cell?_alloc_new _ _ _ 1) (World.cell?_alloc_new _ _ _ 2) (by omega) (by simp; omega) ?_; intro v8 w8 hown8 hg8))
                go_roundw
                case rel => exact ⟨j + 1, l[j].b, d, by omega, by go_num, by simp [hv]; omega, by omega, by omega, hdl, hst2, by rw [Hid, hinv.out, hfin.out], kR3, hown3, hB.trans (hq3.mono hz)⟩
                case measure => simp [intOf]; omega
              · have hheld : heldB h s l[j].b = false := by
                  cases hh : heldB h s l[j].b
                  · rfl
                  · rw [hv_held hh1 hbd.2.2.1 (by omega), hV.out] at hh; omega
                have hfin := Lib.hid (finS_bad hlt hst.out (doE_d (p := p) (s := s) (h := h) (n := d.length) hsh hw0 (by omega) x3 hheld) (by decide))
                have t3 : (l[j].a == 1) = false := by simp [x3]
                clear hsh hw0 x3 hheld
                go_wp2_with (first
              | (go_at_call 58; refine (cshaped_any l[j] _).mono ?_; rintro e w2 ⟨rfl, hB2⟩; rw [HS.out]
                 have kX := (Blk.new wr 45 #[.int .i64 l[j].a, .int .i64 l[j].b, .string l[j].s]).below' hB2
                 have hq2 : Below wr.heap.size wr w2 := Below.trans (b := wr.alloc (.cells #[.int .i64 l[j].a, .int .i64 l[j].b, .string l[j].s] 45)) (by (repeat' first | exact Below.refl _ _ | apply Below.drew | (refine Below.setCells ?_ _ _ ?_) | (refine Below.setCell ?_ ?_ _) | (refine Below.alloc ?_ ?_ _) | (simp; done) | (simp; omega))) (hB2.mono (by simp))
                 have kR := hR.below' hq2
                 have a0 := kX.cell 0 _ rfl
                 have a1 := kX.cell 1 _ rfl
                 have a2 := kX.cell 2 _ rfl
                 have a3 := kX.lt
                 have r0 := kR.cell 0 _ rfl
                 have r1 := kR.cell 1 _ rfl
                 have q0 := kR.frozen 0
                 have q1 := kR.frozen 1
                 have rl := kR.lt)
              | (go_at_call 59; refine (word_any l[j].s _ HWj.out).mono ?_; rintro e w3 ⟨rfl, hB3⟩; rw [HE.out]
                 have kX3 := kX.below' hB3
                 have hq3 : Below wr.heap.size wr w3 := hq2.trans (hB3.mono hq2.size)
                 have kR3 := hR.below' hq3
                 have b0' := kX3.cell 0 _ rfl
                 have b1' := kX3.cell 1 _ rfl
                 have b2' := kX3.cell 2 _ rfl
                 have b3' := kX3.lt
                 have r0' := kR3.cell 0 _ rfl
                 have r1' := kR3.cell 1 _ rfl
                 have q0' := kR3.frozen 0
                 have q1' := kR3.frozen 1
                 have rl' := kR3.lt
                 have hown3 := hown.below hq3
                 have hz3 := hq3.size)
              | (at_builtin; refine wpList_append_tri rfl (.tmp 57) (.tmp 63) _ rfl (w.heap.size + 1) _ i0 _ Try.underlying33 hi0 hz0' hz1' hz2' rfl _ d rfl (hown3.alloc _) w3.heap.size (workOf l[j]) rfl (World.cell?_alloc_new _ _ _ 0) (World.cell?_alloc_new _ _ _ 1) (World.cell?_alloc_new _ _ _ 2) (by omega) (by simp; omega) ?_; intro v8 w8 hown8 hg8))
                (try simp only [Exit.inBlock, Exit.then])
                refine sheet_ret rfl rfl (g := w.heap.size) (x := .int .i64 0) (y := .slice none 0 0) (by simpa using (kR3.set_ 0 (.int .i64 0)).set_ 1 (.slice none 0 0)) rfl ?_
                have hBf := hB.trans (hq3.mono hz)
                exact sheetPost_bad (by rw [hinv.out, hfin.out]) (by (repeat' first | assumption | exact Below.refl _ _ | apply Below.drew | (refine Below.setCells ?_ _ _ ?_) | (refine Below.setCell ?_ ?_ _) | (refine Below.alloc ?_ ?_ _) | (simp; done) | (simp; omega)))
              · have hheld : heldB h s l[j].b = false := by
                  cases hh : heldB h s l[j].b
                  · rfl
                  · rw [hv_held hh1 hbd.2.2.1 (by omega), hV.out] at hh; omega
                have hfin := Lib.hid (finS_bad hlt hst.out (doE_d (p := p) (s := s) (h := h) (n := d.length) hsh hw0 (by omega) x3 hheld) (by decide))
                have t3 : (l[j].a == 1) = false := by simp [x3]
                clear hsh hw0 x3 hheld
                go_wp2_with (first
              | (go_at_call 58; refine (cshaped_any l[j] _).mono ?_; rintro e w2 ⟨rfl, hB2⟩; rw [HS.out]
                 have kX := (Blk.new wr 45 #[.int .i64 l[j].a, .int .i64 l[j].b, .string l[j].s]).below' hB2
                 have hq2 : Below wr.heap.size wr w2 := Below.trans (b := wr.alloc (.cells #[.int .i64 l[j].a, .int .i64 l[j].b, .string l[j].s] 45)) (by (repeat' first | exact Below.refl _ _ | apply Below.drew | (refine Below.setCells ?_ _ _ ?_) | (refine Below.setCell ?_ ?_ _) | (refine Below.alloc ?_ ?_ _) | (simp; done) | (simp; omega))) (hB2.mono (by simp))
                 have kR := hR.below' hq2
                 have a0 := kX.cell 0 _ rfl
                 have a1 := kX.cell 1 _ rfl
                 have a2 := kX.cell 2 _ rfl
                 have a3 := kX.lt
                 have r0 := kR.cell 0 _ rfl
                 have r1 := kR.cell 1 _ rfl
                 have q0 := kR.frozen 0
                 have q1 := kR.frozen 1
                 have rl := kR.lt)
              | (go_at_call 59; refine (word_any l[j].s _ HWj.out).mono ?_; rintro e w3 ⟨rfl, hB3⟩; rw [HE.out]
                 have kX3 := kX.below' hB3
                 have hq3 : Below wr.heap.size wr w3 := hq2.trans (hB3.mono hq2.size)
                 have kR3 := hR.below' hq3
                 have b0' := kX3.cell 0 _ rfl
                 have b1' := kX3.cell 1 _ rfl
                 have b2' := kX3.cell 2 _ rfl
                 have b3' := kX3.lt
                 have r0' := kR3.cell 0 _ rfl
                 have r1' := kR3.cell 1 _ rfl
                 have q0' := kR3.frozen 0
                 have q1' := kR3.frozen 1
                 have rl' := kR3.lt
                 have hown3 := hown.below hq3
                 have hz3 := hq3.size)
              | (at_builtin; refine wpList_append_tri rfl (.tmp 57) (.tmp 63) _ rfl (w.heap.size + 1) _ i0 _ Try.underlying33 hi0 hz0' hz1' hz2' rfl _ d rfl (hown3.alloc _) w3.heap.size (workOf l[j]) rfl (World.cell?_alloc_new _ _ _ 0) (World.cell?_alloc_new _ _ _ 1) (World.cell?_alloc_new _ _ _ 2) (by omega) (by simp; omega) ?_; intro v8 w8 hown8 hg8))
                (try simp only [Exit.inBlock, Exit.then])
                refine sheet_ret rfl rfl (g := w.heap.size) (x := .int .i64 0) (y := .slice none 0 0) (by simpa using (kR3.set_ 0 (.int .i64 0)).set_ 1 (.slice none 0 0)) rfl ?_
                have hBf := hB.trans (hq3.mono hz)
                exact sheetPost_bad (by rw [hinv.out, hfin.out]) (by (repeat' first | assumption | exact Below.refl _ _ | apply Below.drew | (refine Below.setCells ?_ _ _ ?_) | (refine Below.setCell ?_ ?_ _) | (refine Below.alloc ?_ ?_ _) | (simp; done) | (simp; omega)))
              · have t3 : (l[j].a == 1) = false := by simp [x3]
                have hheld : heldB h s l[j].b = true := by rw [hv_held hh1 hbd.2.2.1 (by omega), hV.out]; omega
                have hfin := Lib.hid (finS_bad hlt hst.out (doE_l (p := p) (s := s) (h := h) (n := d.length) hsh hw0 (by omega) x3 hheld (by omega)) (by decide))
                have t6 : ((d.length : Int) == 400) = true := by simp [x6]
                clear hsh hw0 x3 hheld x6
                go_wp2_with (first
              | (go_at_call 58; refine (cshaped_any l[j] _).mono ?_; rintro e w2 ⟨rfl, hB2⟩; rw [HS.out]
                 have kX := (Blk.new wr 45 #[.int .i64 l[j].a, .int .i64 l[j].b, .string l[j].s]).below' hB2
                 have hq2 : Below wr.heap.size wr w2 := Below.trans (b := wr.alloc (.cells #[.int .i64 l[j].a, .int .i64 l[j].b, .string l[j].s] 45)) (by (repeat' first | exact Below.refl _ _ | apply Below.drew | (refine Below.setCells ?_ _ _ ?_) | (refine Below.setCell ?_ ?_ _) | (refine Below.alloc ?_ ?_ _) | (simp; done) | (simp; omega))) (hB2.mono (by simp))
                 have kR := hR.below' hq2
                 have a0 := kX.cell 0 _ rfl
                 have a1 := kX.cell 1 _ rfl
                 have a2 := kX.cell 2 _ rfl
                 have a3 := kX.lt
                 have r0 := kR.cell 0 _ rfl
                 have r1 := kR.cell 1 _ rfl
                 have q0 := kR.frozen 0
                 have q1 := kR.frozen 1
                 have rl := kR.lt)
              | (go_at_call 59; refine (word_any l[j].s _ HWj.out).mono ?_; rintro e w3 ⟨rfl, hB3⟩; rw [HE.out]
                 have kX3 := kX.below' hB3
                 have hq3 : Below wr.heap.size wr w3 := hq2.trans (hB3.mono hq2.size)
                 have kR3 := hR.below' hq3
                 have b0' := kX3.cell 0 _ rfl
                 have b1' := kX3.cell 1 _ rfl
                 have b2' := kX3.cell 2 _ rfl
                 have b3' := kX3.lt
                 have r0' := kR3.cell 0 _ rfl
                 have r1' := kR3.cell 1 _ rfl
                 have q0' := kR3.frozen 0
                 have q1' := kR3.frozen 1
                 have rl' := kR3.lt
                 have hown3 := hown.below hq3
                 have hz3 := hq3.size)
              | (at_builtin; refine wpList_append_tri rfl (.tmp 57) (.tmp 63) _ rfl (w.heap.size + 1) _ i0 _ Try.underlying33 hi0 hz0' hz1' hz2' rfl _ d rfl (hown3.alloc _) w3.heap.size (workOf l[j]) rfl (World.cell?_alloc_new _ _ _ 0) (World.cell?_alloc_new _ _ _ 1) (World.cell?_alloc_new _ _ _ 2) (by omega) (by simp; omega) ?_; intro v8 w8 hown8 hg8))
                (try simp only [Exit.inBlock, Exit.then])
                refine sheet_ret rfl rfl (g := w.heap.size) (x := .int .i64 0) (y := .slice none 0 0) (by simpa using (kR3.set_ 0 (.int .i64 0)).set_ 1 (.slice none 0 0)) rfl ?_
                have hBf := hB.trans (hq3.mono hz)
                exact sheetPost_bad (by rw [hinv.out, hfin.out]) (by (repeat' first | assumption | exact Below.refl _ _ | apply Below.drew | (refine Below.setCells ?_ _ _ ?_) | (refine Below.setCell ?_ ?_ _) | (refine Below.alloc ?_ ?_ _) | (simp; done) | (simp; omega)))
              · have t3 : (l[j].a == 1) = false := by simp [x3]
                have t7 : (l[j].a == 3) = true := by simp [x7]
                have hheld : heldB h s l[j].b = true := by rw [hv_held hh1 hbd.2.2.1 (by omega), hV.out]; omega
                have hd0 := doE_0 (p := p) (s := s) (h := h) (n := d.length) hsh hw0 (by omega) (Or.inr ⟨hheld, by omega⟩)
                have hfin := Lib.hid (finS_step hlt hst.out hd0)
                have hst2 := Lib.hid (stS_work hlt hst.out x3)
                have hwk := Lib.hid (show workOf l[j] = (⟨2, l[j].b, .empty⟩ : Tri) from by unfold workOf; rw [if_pos x7])
                have t6 : ((d.length : Int) == 400) = false := by simp; omega
                clear hsh hw0 x3 hd0 hheld x7
                go_wp2_with (first
              | (go_at_call 58; refine (cshaped_any l[j] _).mono ?_; rintro e w2 ⟨rfl, hB2⟩; rw [HS.out]
                 have kX := (Blk.new wr 45 #[.int .i64 l[j].a, .int .i64 l[j].b, .string l[j].s]).below' hB2
                 have hq2 : Below wr.heap.size wr w2 := Below.trans (b := wr.alloc (.cells #[.int .i64 l[j].a, .int .i64 l[j].b, .string l[j].s] 45)) (by (repeat' first | exact Below.refl _ _ | apply Below.drew | (refine Below.setCells ?_ _ _ ?_) | (refine Below.setCell ?_ ?_ _) | (refine Below.alloc ?_ ?_ _) | (simp; done) | (simp; omega))) (hB2.mono (by simp))
                 have kR := hR.below' hq2
                 have a0 := kX.cell 0 _ rfl
                 have a1 := kX.cell 1 _ rfl
                 have a2 := kX.cell 2 _ rfl
                 have a3 := kX.lt
                 have r0 := kR.cell 0 _ rfl
                 have r1 := kR.cell 1 _ rfl
                 have q0 := kR.frozen 0
                 have q1 := kR.frozen 1
                 have rl := kR.lt)
              | (go_at_call 59; refine (word_any l[j].s _ HWj.out).mono ?_; rintro e w3 ⟨rfl, hB3⟩; rw [HE.out]
                 have kX3 := kX.below' hB3
                 have hq3 : Below wr.heap.size wr w3 := hq2.trans (hB3.mono hq2.size)
                 have kR3 := hR.below' hq3
                 have b0' := kX3.cell 0 _ rfl
                 have b1' := kX3.cell 1 _ rfl
                 have b2' := kX3.cell 2 _ rfl
                 have b3' := kX3.lt
                 have r0' := kR3.cell 0 _ rfl
                 have r1' := kR3.cell 1 _ rfl
                 have q0' := kR3.frozen 0
                 have q1' := kR3.frozen 1
                 have rl' := kR3.lt
                 have hown3 := hown.below hq3
                 have hz3 := hq3.size)
              | (at_builtin; refine wpList_append_tri rfl (.tmp 127) (.tmp 131) _ rfl (w.heap.size + 1) _ i0 _ Try.underlying33 hi0 hz0' hz1' hz2' rfl _ d rfl (hown3.alloc _) w3.heap.size (⟨2, l[j].b, .empty⟩ : Tri) rfl (World.cell?_alloc_new _ _ _ 0) (World.cell?_alloc_new _ _ _ 1) (World.cell?_alloc_new _ _ _ 2) (by omega) (by simp; omega) ?_; intro v8 w8 hown8 hg8))
                have hB8 : Below w.heap.size w w8 := ((hown3.base (base' := w.heap.size) (by omega)).alloc _).grown ((hB.trans (hq3.mono hz)).alloc (by omega) _) hg8 (by simp; omega)
                go_roundw
                case rel => exact ⟨j + 1, h, d ++ [workOf l[j]], by omega, by go_num, by rw [hV.out], by omega, by omega, by simp; omega, hst2, by rw [Hid, hinv.out, hfin.out], (kR3.alloc _).grown hg8 (hown3.ne_block kR3 (by decide)), by rw [hwk.out]; exact hown8, hB8⟩
                case measure => simp [intOf]; omega
              · have t3 : (l[j].a == 1) = false := by simp [x3]
                have t7 : (l[j].a == 3) = false := by simp [x7]
                have hheld : heldB h s l[j].b = true := by rw [hv_held hh1 hbd.2.2.1 (by omega), hV.out]; omega
                have hd0 := doE_0 (p := p) (s := s) (h := h) (n := d.length) hsh hw0 (by omega) (Or.inr ⟨hheld, by omega⟩)
                have hfin := Lib.hid (finS_step hlt hst.out hd0)
                have hst2 := Lib.hid (stS_work hlt hst.out x3)
                have hwk := Lib.hid (show workOf l[j] = (⟨1, l[j].b, l[j].s⟩ : Tri) from by unfold workOf; rw [if_neg x7])
                have t6 : ((d.length : Int) == 400) = false := by simp; omega
                clear hsh hw0 x3 hd0 hheld x7
                go_wp2_with (first
              | (go_at_call 58; refine (cshaped_any l[j] _).mono ?_; rintro e w2 ⟨rfl, hB2⟩; rw [HS.out]
                 have kX := (Blk.new wr 45 #[.int .i64 l[j].a, .int .i64 l[j].b, .string l[j].s]).below' hB2
                 have hq2 : Below wr.heap.size wr w2 := Below.trans (b := wr.alloc (.cells #[.int .i64 l[j].a, .int .i64 l[j].b, .string l[j].s] 45)) (by (repeat' first | exact Below.refl _ _ | apply Below.drew | (refine Below.setCells ?_ _ _ ?_) | (refine Below.setCell ?_ ?_ _) | (refine Below.alloc ?_ ?_ _) | (simp; done) | (simp; omega))) (hB2.mono (by simp))
                 have kR := hR.below' hq2
                 have a0 := kX.cell 0 _ rfl
                 have a1 := kX.cell 1 _ rfl
                 have a2 := kX.cell 2 _ rfl
                 have a3 := kX.lt
                 have r0 := kR.cell 0 _ rfl
                 have r1 := kR.cell 1 _ rfl
                 have q0 := kR.frozen 0
                 have q1 := kR.frozen 1
                 have rl := kR.lt)
              | (go_at_call 59; refine (word_any l[j].s _ HWj.out).mono ?_; rintro e w3 ⟨rfl, hB3⟩; rw [HE.out]
                 have kX3 := kX.below' hB3
                 have hq3 : Below wr.heap.size wr w3 := hq2.trans (hB3.mono hq2.size)
                 have kR3 := hR.below' hq3
                 have b0' := kX3.cell 0 _ rfl
                 have b1' := kX3.cell 1 _ rfl
                 have b2' := kX3.cell 2 _ rfl
                 have b3' := kX3.lt
                 have r0' := kR3.cell 0 _ rfl
                 have r1' := kR3.cell 1 _ rfl
                 have q0' := kR3.frozen 0
                 have q1' := kR3.frozen 1
                 have rl' := kR3.lt
                 have hown3 := hown.below hq3
                 have hz3 := hq3.size)
              | (at_builtin; refine wpList_append_tri rfl (.tmp 57) (.tmp 63) _ rfl (w.heap.size + 1) _ i0 _ Try.underlying33 hi0 hz0' hz1' hz2' rfl _ d rfl (hown3.alloc _) w3.heap.size (⟨1, l[j].b, l[j].s⟩ : Tri) rfl (World.cell?_alloc_new _ _ _ 0) (World.cell?_alloc_new _ _ _ 1) (World.cell?_alloc_new _ _ _ 2) (by omega) (by simp; omega) ?_; intro v8 w8 hown8 hg8))
                have hB8 : Below w.heap.size w w8 := ((hown3.base (base' := w.heap.size) (by omega)).alloc _).grown ((hB.trans (hq3.mono hz)).alloc (by omega) _) hg8 (by simp; omega)
                go_roundw
                case rel => exact ⟨j + 1, h, d ++ [workOf l[j]], by omega, by go_num, by rw [hV.out], by omega, by omega, by simp; omega, hst2, by rw [Hid, hinv.out, hfin.out], (kR3.alloc _).grown hg8 (hown3.ne_block kR3 (by decide)), by rw [hwk.out]; exact hown8, hB8⟩
                case measure => simp [intOf]; omega
            · obtain ⟨E, HE⟩ : ∃ E, Hid (wordE l[j].s = E) := ⟨_, Lib.hid rfl⟩
              have HS := Lib.hid hsh
              have hfin := Lib.hid (finS_bad hlt hst.out (doE_w (p := p) (s := s) (h := h) (n := d.length) hsh hw0) hw0)
              rw [HE.out] at hw0 hfin
              have tw : (E != 0) = true := by simp [hw0]
              clear hsh hw0
              go_wp2_with (first
            | (go_at_call 58; refine (cshaped_any l[j] _).mono ?_; rintro e w2 ⟨rfl, hB2⟩; rw [HS.out]
               have kX := (Blk.new wr 45 #[.int .i64 l[j].a, .int .i64 l[j].b, .string l[j].s]).below' hB2
               have hq2 : Below wr.heap.size wr w2 := Below.trans (b := wr.alloc (.cells #[.int .i64 l[j].a, .int .i64 l[j].b, .string l[j].s] 45)) (by (repeat' first | exact Below.refl _ _ | apply Below.drew | (refine Below.setCells ?_ _ _ ?_) | (refine Below.setCell ?_ ?_ _) | (refine Below.alloc ?_ ?_ _) | (simp; done) | (simp; omega))) (hB2.mono (by simp))
               have kR := hR.below' hq2
               have a0 := kX.cell 0 _ rfl
               have a1 := kX.cell 1 _ rfl
               have a2 := kX.cell 2 _ rfl
               have a3 := kX.lt
               have r0 := kR.cell 0 _ rfl
               have r1 := kR.cell 1 _ rfl
               have q0 := kR.frozen 0
               have q1 := kR.frozen 1
               have rl := kR.lt)
            | (go_at_call 59; refine (word_any l[j].s _ HWj.out).mono ?_; rintro e w3 ⟨rfl, hB3⟩; rw [HE.out]
               have kX3 := kX.below' hB3
               have hq3 : Below wr.heap.size wr w3 := hq2.trans (hB3.mono hq2.size)
               have kR3 := hR.below' hq3
               have b0' := kX3.cell 0 _ rfl
               have b1' := kX3.cell 1 _ rfl
               have b2' := kX3.cell 2 _ rfl
               have b3' := kX3.lt
               have r0' := kR3.cell 0 _ rfl
               have r1' := kR3.cell 1 _ rfl
               have q0' := kR3.frozen 0
               have q1' := kR3.frozen 1
               have rl' := kR3.lt
               have hown3 := hown.below hq3
               have hz3 := hq3.size)
            | (at_builtin; refine wpList_append_tri rfl (.tmp 57) (.tmp 63) _ rfl (w.heap.size + 1) _ i0 _ Try.underlying33 hi0 hz0' hz1' hz2' rfl _ d rfl (hown3.alloc _) w3.heap.size (workOf l[j]) rfl (World.cell?_alloc_new _ _ _ 0) (World.cell?_alloc_new _ _ _ 1) (World.cell?_alloc_new _ _ _ 2) (by omega) (by simp; omega) ?_; intro v8 w8 hown8 hg8))
              (try simp only [Exit.inBlock, Exit.then])
              refine sheet_ret rfl rfl (g := w.heap.size) (x := .int .i64 0) (y := .slice none 0 0) (by simpa using (kR3.set_ 0 (.int .i64 0)).set_ 1 (.slice none 0 0)) rfl ?_
              have hBf := hB.trans (hq3.mono hz)
              exact sheetPost_bad (by rw [hinv.out, hfin.out]) (by (repeat' first | assumption | exact Below.refl _ _ | apply Below.drew | (refine Below.setCells ?_ _ _ ?_) | (refine Below.setCell ?_ ?_ _) | (refine Below.alloc ?_ ?_ _) | (simp; done) | (simp; omega)))
        · have hfin := Lib.hid (finS_end hlt hst.out (p := p) (s := s))
          have q0 := hR.frozen 0
          have q1 := hR.frozen 1
          have r0 := hR.cell 0 _ rfl
          have r1 := hR.cell 1 _ rfl
          go_wp2_with fail
          (try simp only [Exit.inBlock, Exit.then])
          refine sheet_ret rfl rfl (g := w.heap.size) (x := .int .i64 p) (y := .slice Av d.length cv) (by simpa using (hR.set_ 0 (.int .i64 p)).set_ 1 (.slice Av d.length cv)) rfl ?_
          unfold SheetPost
          rw [hinv.out, hfin.out]
          refine ⟨_, rfl, ?_, by (repeat' first | assumption | exact Below.refl _ _ | apply Below.drew | (refine Below.setCells ?_ _ _ ?_) | (refine Below.setCell ?_ ?_ _) | (refine Below.alloc ?_ ?_ _) | (simp; done) | (simp; omega))⟩
          exact Own.base (ownsRow_setCell_below (ownsRow_setCell_below hown (by simp) _) (by simp) _) (by omega)
end Go.Proofs.Ytfnklchhhojimaa

namespace Go.Proofs.Ytfnklchhhojimaa
open Go Go.RowKit Tor

theorem stS_len (l : List Tri) : ∀ k, (stS l k).2.length ≤ k
  | 0 => by simp [stS]
  | k + 1 => by
    have := stS_len l k
    unfold stS
    split
    · simp only; omega
    · simp only [List.length_append, List.length_singleton]; omega
theorem finS_len {p s : Int} {l : List Tri} : ∀ n k, (finS p s l n k).2.1.length ≤ n + k
  | 0, k => by have := stS_len l k; simp only [finS]; omega
  | n + 1, k => by
    unfold finS
    split
    · have := finS_len (p := p) (s := s) (l := l) n (k + 1); omega
    · simp
theorem sheetR_len {p s : Int} {l : List Tri} : (sheetR p s l).2.1.length ≤ l.length := by
  unfold sheetR
  split
  · simp
  · split
    · simp
    · exact finS_len _ _


end Go.Proofs.Ytfnklchhhojimaa

namespace Go.Proofs.Ytfnklchhhojimaa
open Go Go.RowKit Tor

/-- a work that is valid -/
structure WOk (p : Int) (x : Tri) : Prop where
  k : x.a = 1 ∨ x.a = 2
  b0 : 0 ≤ x.b
  b1 : x.b ≤ p - 2
  e : x.a = 2 → x.s.size = 0
  w : wordE x.s = 0
theorem wok_of {p : Int} {l : List Tri} (h : sheetE p l = 0) : ∀ x ∈ l, WOk p x := by
  intro x hx
  unfold sheetE at h
  split at h
  · cases h
  · split at h
    · cases h
    · split at h
      · cases h
      · rename_i hb
        split at h
        · cases h
        · rename_i hw
          rw [List.any_eq_true] at hb hw
          have h1 : badW p x = false := by
            cases hbx : badW p x
            · rfl
            · exact absurd ⟨x, hx, hbx⟩ hb
          have h2 : wrongW x = false := by
            cases hbx : wrongW x
            · rfl
            · exact absurd ⟨x, hx, hbx⟩ hw
          rw [badW_false] at h1
          unfold wrongW at h2
          exact ⟨by omega, by omega, by omega, by omega, by simpa using h2⟩

theorem size_zero {s : ByteArray} (h : s.size = 0) : s = .empty := by
  obtain ⟨⟨x⟩⟩ := s
  have : x.length = 0 := h
  have := List.eq_nil_of_length_eq_zero this
  subst this
  rfl
theorem workOf_stepOf {p : Int} {x : Tri} (h : WOk p x) : workOf (stepOf x) = x := by
  obtain ⟨a, b, s⟩ := x
  rcases h.k with e | e
  · simp only at e
    subst e
    simp [workOf, stepOf]
  · have := h.e e
    simp only at e this
    subst e
    rw [size_zero this]
    simp [workOf, stepOf]
theorem stepOf_a (x : Tri) : (stepOf x).a ≠ 1 := by unfold stepOf; split <;> simp
theorem stepOf_b (x : Tri) : (stepOf x).b = x.b := by unfold stepOf; split <;> rfl
theorem fine_step {p s h n : Int} {x : Tri} (hx : WOk p x) (hh : heldB h s x.b = true) (hn : n < 400) : Fine p s h n (stepOf x) := by
  refine ⟨?_, ?_, by rw [stepOf_b]; exact hx.b0, by rw [stepOf_b]; exact hx.b1, fun e => absurd e (stepOf_a x), fun _ => by rw [stepOf_b]; exact hh, fun _ => hn⟩
  · unfold shapedB stepOf
    split
    · rfl
    · simp
  · unfold stepOf
    split
    · rfl
    · exact hx.w
theorem fine_reach {p s h n b : Int} (b0 : 0 ≤ b) (b1 : b ≤ p - s) (hs : 2 ≤ s) : Fine p s h n ⟨1, b, .empty⟩ :=
  ⟨rfl, rfl, b0, by show b ≤ _; omega, fun _ => b1, fun h => absurd rfl h, fun h => absurd rfl h⟩


/-- some place serves for a work -/
theorem place_ex {p s b : Int} (b0 : 0 ≤ b) (b1 : b ≤ p - 2) (hs : 2 ≤ s) (hsp : s ≤ p) : ∃ h : Nat, (h : Int) ≤ p - s ∧ heldB h s b = true := by
  refine ⟨(min b (p - s)).toNat, by omega, ?_⟩
  rw [held_iff]
  omega
theorem best_held {p s : Int} {x : Tri} {r : List Tri} (hx : WOk p x) (hs : 2 ≤ s) (hsp : s ≤ p) :
    ((bestUpto (fun h : Nat => runN (x :: r) h s) (p - s + 1).toNat : Nat) : Int) ≤ p - s ∧ heldB (bestUpto (fun h : Nat => runN (x :: r) h s) (p - s + 1).toNat : Nat) s x.b = true := by
  obtain ⟨h, h1, h2⟩ := place_ex (p := p) (s := s) hx.b0 hx.b1 hs hsp
  have hlt := bestUpto_lt (fun h : Nat => runN (x :: r) h s) (p - s + 1).toNat (by omega)
  have hmax := bestUpto_max (fun h : Nat => runN (x :: r) h s) (p - s + 1).toNat h (by omega)
  have hpos : 0 < runN (x :: r) h s := by unfold runN; rw [List.takeWhile_cons, if_pos h2]; simp
  refine ⟨by omega, ?_⟩
  cases hh : heldB (bestUpto (fun h : Nat => runN (x :: r) h s) (p - s + 1).toNat : Nat) s x.b
  · exfalso
    generalize bestUpto (fun h : Nat => runN (x :: r) h s) (p - s + 1).toNat = b at hh hmax
    have : runN (x :: r) (b : Int) s = 0 := by unfold runN; rw [List.takeWhile_cons, if_neg (by simp [hh])]; rfl
    omega
  · rfl

theorem rst_ok {p s : Int} (hs : 2 ≤ s) (hsp : s ≤ p) : ∀ (l : List Tri) (h n : Int), (∀ x ∈ l, WOk p x) → n + l.length ≤ 400 → okS p s h n (rst p s l h)
  | [], _, _, _, _ => trivial
  | x :: r, h, n, hw, hn => by
    have hx := hw x (by simp)
    have hr : ∀ y ∈ r, WOk p y := fun y hy => hw y (by simp [hy])
    simp only [List.length_cons] at hn
    unfold rst
    split
    · rename_i hh
      unfold okS
      refine ⟨fine_step hx hh (by omega), ?_⟩
      rw [if_neg (stepOf_a x)]
      exact rst_ok hs hsp r h (n + 1) hr (by omega)
    · obtain ⟨h1, h2⟩ := best_held (r := r) hx hs hsp
      unfold okS
      refine ⟨fine_reach (by omega) h1 hs, ?_⟩
      rw [if_pos rfl]
      unfold okS
      refine ⟨fine_step hx h2 (by omega), ?_⟩
      rw [if_neg (stepOf_a x)]
      exact rst_ok hs hsp r _ (n + 1) hr (by omega)
theorem rst_works {p s : Int} : ∀ (l : List Tri) (h : Int), (∀ x ∈ l, WOk p x) → worksOf (rst p s l h) = l
  | [], _, _ => rfl
  | x :: r, h, hw => by
    have hx := hw x (by simp)
    have hr : ∀ y ∈ r, WOk p y := fun y hy => hw y (by simp [hy])
    unfold rst
    split
    · rw [worksOf_cons2 (stepOf_a x), workOf_stepOf hx, rst_works r _ hr]
    · rw [worksOf_cons1 rfl, worksOf_cons2 (stepOf_a x), workOf_stepOf hx, rst_works r _ hr]

theorem rbest_held {l : List Tri} {P S : Nat} {M : List Nat} (hS : 2 ≤ S) (hSP : S ≤ P) (hP : P ≤ 24) (hb : ∀ (k : Nat) (hk : k < l.length), 0 ≤ l[k].b ∧ l[k].b ≤ (P : Int) - 2) (hM : ∀ x ∈ M, x < l.length) (hnd : M.Nodup) (hlt : M.length < l.length) :
    rbest l P S M ≤ P - S ∧ 0 < (mseq l (rbest l P S M : Nat) S l.length M).length := by
  have hb0 : ∀ (k : Nat) (hk : k < l.length), 0 ≤ l[k].b := fun k hk => (hb k hk).1
  have hbest := rbest_eq (N := 4 * l.length + S) (M := M) hS hSP hP hb0 (Nat.le_refl _) hM hnd
  have hbl := bestUpto_lt (offN S (4 * l.length + S) (rowsOf l M)) (P - S + 1) (by omega)
  rw [hbest] at hbl
  have hmq := offN_mseq (N := 4 * l.length + S) (M := M) (h := rbest l P S M) (by omega) hb0 (Nat.le_refl _) hM hnd
  have hpos := much_pos (p := P) (s := S) (N := 4 * l.length + S) hlt hb hS hSP (by omega)
  rw [hbest] at hpos
  unfold offN at hpos
  rw [hmq] at hpos
  exact ⟨by omega, hpos⟩
theorem mseq_pos {l : List Tri} {h s : Int} {k : Nat} {M : List Nat} (hp : 0 < (mseq l h s k M).length) : 0 ≤ nextUpto l M h s l.length := by
  cases k with
  | zero => simp [mseq] at hp
  | succ k =>
    unfold mseq at hp
    split at hp
    · assumption
    · simp at hp


/-- the order in which the quick instructions make the works -/
def rqo (l : List Tri) (P S : Nat) : Nat → List Nat → Int → List Nat
  | 0, _, _ => []
  | k + 1, M, h => if M.length < l.length then
      if 0 ≤ nextUpto l M h S l.length then (nextUpto l M h S l.length).toNat :: rqo l P S k (M ++ [(nextUpto l M h S l.length).toNat]) h
      else rqo l P S k M (rbest l P S M)
    else []
theorem stepAt_x {l : List Tri} {i : Nat} (hi : i < l.length) : stepAt l i = stepOf (xAt l i) := by
  rw [stepAt_of hi, xAt_of hi]

theorem rq_ok {l : List Tri} {P S : Nat} (hS : 2 ≤ S) (hSP : S ≤ P) (hP : P ≤ 24) (hw : ∀ x ∈ l, WOk P x) (h400 : l.length ≤ 400) :
    ∀ (k : Nat) (M : List Nat) (h : Int), M.Nodup → (∀ x ∈ M, x < l.length) → okS P S h M.length (rq l P S k M h) ∧ worksOf (rq l P S k M h) = (rqo l P S k M h).map (xAt l)
  | 0, _, _, _, _ => ⟨trivial, rfl⟩
  | k + 1, M, h, hnd, hM => by
    have hb : ∀ (k : Nat) (hk : k < l.length), 0 ≤ l[k].b ∧ l[k].b ≤ (P : Int) - 2 := fun k hk => ⟨(hw _ (List.getElem_mem hk)).b0, (hw _ (List.getElem_mem hk)).b1⟩
    unfold rq rqo
    by_cases hl : M.length < l.length
    · rw [if_pos hl, if_pos hl]
      by_cases hn : 0 ≤ nextUpto l M h S l.length
      · rw [if_pos hn, if_pos hn]
        obtain ⟨i, e, hi, hc⟩ := next_can hn
        obtain ⟨h1, h2⟩ := snoc_ok hnd hM hi (can_new hc)
        rw [e]
        simp only [Int.toNat_natCast]
        have ih := rq_ok hS hSP hP hw h400 k (M ++ [i]) h h1 h2
        rw [stepAt_x hi]
        have hx : WOk P (xAt l i) := by rw [xAt_of hi]; exact hw _ (List.getElem_mem hi)
        unfold canB at hc
        simp only [Bool.and_eq_true] at hc
        refine ⟨?_, ?_⟩
        · unfold okS
          refine ⟨fine_step hx hc.1 (by omega), ?_⟩
          rw [if_neg (stepOf_a _)]
          have := ih.1
          simpa using this
        · rw [worksOf_cons2 (stepOf_a _), workOf_stepOf hx, ih.2]
          rfl
      · rw [if_neg hn, if_neg hn]
        have hr := rbest_held hS hSP hP hb hM hnd hl
        have ih := rq_ok hS hSP hP hw h400 k M (rbest l P S M : Nat) hnd hM
        refine ⟨?_, ?_⟩
        · unfold okS
          refine ⟨fine_reach (by omega) (by have := hr.1; omega) (by omega), ?_⟩
          rw [if_pos rfl]
          exact ih.1
        · rw [worksOf_cons1 rfl, ih.2]
    · rw [if_neg hl, if_neg hl]
      exact ⟨trivial, rfl⟩


/-- an order in which all works come, each behind those that it must come behind -/
def LinExt (l : List Tri) : List Nat → List Nat → Prop
  | _, [] => True
  | M, i :: r => i < l.length ∧ rdyB l M i = true ∧ LinExt l (M ++ [i]) r
theorem rqo_lin {l : List Tri} {P S : Nat} (hS : 2 ≤ S) (hSP : S ≤ P) (hP : P ≤ 24) (hb : ∀ (k : Nat) (hk : k < l.length), 0 ≤ l[k].b ∧ l[k].b ≤ (P : Int) - 2) :
    ∀ (k : Nat) (M : List Nat) (h : Int), M.Nodup → (∀ x ∈ M, x < l.length) → LinExt l M (rqo l P S k M h) ∧ (2 * l.length + (if 0 ≤ nextUpto l M h S l.length then 0 else 1) ≤ k + 2 * M.length ∨ l.length ≤ M.length → (rqo l P S k M h).length + M.length = l.length)
  | 0, M, h, hnd, hM => ⟨trivial, fun hk => by
      have := len_of_nodup _ _ hnd hM
      simp only [rqo, List.length_nil]
      split at hk <;> omega⟩
  | k + 1, M, h, hnd, hM => by
    have hlen := len_of_nodup _ _ hnd hM
    unfold rqo
    by_cases hl : M.length < l.length
    · rw [if_pos hl]
      by_cases hn : 0 ≤ nextUpto l M h S l.length
      · rw [if_pos hn, if_pos hn]
        obtain ⟨i, e, hi, hc⟩ := next_can hn
        obtain ⟨h1, h2⟩ := snoc_ok hnd hM hi (can_new hc)
        rw [e]
        simp only [Int.toNat_natCast]
        have ih := rqo_lin hS hSP hP hb k (M ++ [i]) h h1 h2
        unfold canB at hc
        simp only [Bool.and_eq_true] at hc
        refine ⟨⟨hi, hc.2, ih.1⟩, fun hk => ?_⟩
        have := ih.2 (by
          simp only [List.length_append, List.length_singleton]
          left
          split <;> omega)
        have e1 : (M ++ [i]).length = M.length + 1 := by simp
        rw [e1] at this
        rw [List.length_cons]
        omega
      · rw [if_neg hn, if_neg hn]
        have hr := rbest_held hS hSP hP hb hM hnd hl
        have hm := mseq_pos hr.2
        have ih := rqo_lin hS hSP hP hb k M (rbest l P S M : Nat) hnd hM
        rw [if_pos hm] at ih
        exact ⟨ih.1, fun hk => ih.2 (by omega)⟩
    · rw [if_neg hl]
      exact ⟨trivial, fun _ => by simp; omega⟩
end Go.Proofs.Ytfnklchhhojimaa

namespace Go.Proofs.Ytfnklchhhojimaa
open Go Go.RowKit Tor

section
variable {p s : Int}
theorem runN_held {x : Tri} {r : List Tri} {h s : Int} (hh : heldB h s x.b = true) : runN (x :: r) h s = runN r h s + 1 := by
  unfold runN; rw [List.takeWhile_cons, if_pos hh]; rfl
theorem runN_not {x : Tri} {r : List Tri} {h s : Int} (hh : heldB h s x.b = false) : runN (x :: r) h s = 0 := by
  unfold runN; rw [List.takeWhile_cons, if_neg (by simp [hh])]; rfl
theorem runN_nil {h s : Int} : runN [] h s = 0 := rfl
theorem held_neg {s b : Int} : heldB (-1) s b = false := by
  cases h : heldB (-1) s b
  · rfl
  · rw [held_iff] at h; omega
theorem runN_neg {l : List Tri} {s : Int} : runN l (-1) s = 0 := by
  cases l with
  | nil => rfl
  | cons x r => exact runN_not held_neg

theorem reachesN_step1 (x : Tri) (l : List Tri) (h : x.a ≠ 1) : reachesN (x :: l) = reachesN l := by simp [reachesN, h]
theorem reachesN_reach (b : Int) (l : List Tri) : reachesN (⟨1, b, .empty⟩ :: l) = reachesN l + 1 := by simp [reachesN]
theorem reachesN_one {x : Tri} (l : List Tri) (h : x.a = 1) : reachesN (x :: l) = reachesN l + 1 := by simp [reachesN, h]


/-- how many reaches there are in the order of a list -/
def C (p s : Int) (l : List Tri) : Nat := reachesN (rst p s l (-1))

/-- as many as one reach serves for -/
def mx (p s : Int) (l : List Tri) : Nat := runN l (bestUpto (fun h : Nat => runN l h s) (p - s + 1).toNat : Nat) s
theorem mx_ge {l : List Tri} {h : Int} (h0 : 0 ≤ h) (h1 : h ≤ p - s) : runN l h s ≤ mx p s l := by
  have := bestUpto_max (fun h : Nat => runN l h s) (p - s + 1).toNat h.toNat (by omega)
  rw [Int.toNat_of_nonneg h0] at this
  exact this
theorem mx_at (l : List Tri) (hsp : s ≤ p) : ∃ b : Int, 0 ≤ b ∧ b ≤ p - s ∧ runN l b s = mx p s l := by
  have := bestUpto_lt (fun h : Nat => runN l h s) (p - s + 1).toNat (by omega)
  exact ⟨_, Int.natCast_nonneg _, by omega, rfl⟩
theorem mx_pos {x : Tri} {r : List Tri} (hx : WOk p x) (hs : 2 ≤ s) (hsp : s ≤ p) : 1 ≤ mx p s (x :: r) := by
  obtain ⟨h1, h2⟩ := best_held (r := r) hx hs hsp
  unfold mx
  rw [runN_held h2]
  omega

theorem rst_C : ∀ (l : List Tri) (h : Int), reachesN (rst p s l h) = C p s (l.drop (runN l h s))
  | [], h => rfl
  | x :: r, h => by
    cases hh : heldB h s x.b
    · rw [runN_not hh, List.drop_zero]
      unfold C rst
      rw [if_neg (by simp [hh]), if_neg (by simp [held_neg])]
    · rw [runN_held hh, List.drop_succ_cons, ← rst_C r h]
      conv => lhs; unfold rst
      rw [if_pos hh, reachesN_step1 _ _ (stepOf_a x)]
theorem C_nil : C p s [] = 0 := rfl
theorem C_cons {x : Tri} {r : List Tri} (hx : WOk p x) (hs : 2 ≤ s) (hsp : s ≤ p) : C p s (x :: r) = 1 + C p s ((x :: r).drop (mx p s (x :: r))) := by
  obtain ⟨h1, h2⟩ := best_held (r := r) hx hs hsp
  have e : mx p s (x :: r) = runN r (bestUpto (fun h : Nat => runN (x :: r) h s) (p - s + 1).toNat : Nat) s + 1 := by unfold mx; rw [runN_held h2]
  rw [e, List.drop_succ_cons, ← rst_C]
  conv => lhs; unfold C rst
  rw [if_neg (by simp [held_neg]), reachesN_reach, reachesN_step1 _ _ (stepOf_a x)]
  omega

theorem C_drop (hs : 2 ≤ s) (hsp : s ≤ p) : ∀ (n : Nat) (l : List Tri), l.length ≤ n → (∀ x ∈ l, WOk p x) → ∀ j, C p s (l.drop j) ≤ C p s l
  | 0, l, hl, _, j => by
    have : l = [] := List.eq_nil_of_length_eq_zero (by omega)
    subst this
    simp
  | n + 1, [], _, _, j => by simp
  | n + 1, x :: r, hl, hw, j => by
    simp only [List.length_cons] at hl
    have hx := hw x (by simp)
    have hr : ∀ y ∈ r, WOk p y := fun y hy => hw y (by simp [hy])
    cases j with
    | zero => simp
    | succ j =>
      rw [List.drop_succ_cons]
      refine Nat.le_trans (C_drop hs hsp n r (by omega) hr j) ?_
      rw [C_cons hx hs hsp]
      have hm := mx_pos (r := r) hx hs hsp
      obtain ⟨m, hm'⟩ : ∃ m, mx p s (x :: r) = m + 1 := ⟨mx p s (x :: r) - 1, by omega⟩
      rw [hm', List.drop_succ_cons]
      cases r with
      | nil => simp [C_nil]
      | cons y r' =>
        have hge : m ≤ mx p s (y :: r') := by
          obtain ⟨b, b0, b1, b2⟩ := mx_at (s := s) (x :: y :: r') hsp
          have h1 := mx_ge (l := y :: r') (p := p) (s := s) b0 b1
          cases hh : heldB b s x.b
          · rw [runN_not hh] at b2; omega
          · rw [runN_held hh] at b2; omega
        rw [C_cons (hr y (by simp)) hs hsp]
        have := C_drop hs hsp n ((y :: r').drop m) (by rw [List.length_drop]; omega) (fun z hz => hr z (List.mem_of_mem_drop hz)) (mx p s (y :: r') - m)
        rw [List.drop_drop, show m + (mx p s (y :: r') - m) = mx p s (y :: r') by omega] at this
        omega
theorem C_mono {l : List Tri} (hs : 2 ≤ s) (hsp : s ≤ p) (hw : ∀ x ∈ l, WOk p x) (j : Nat) : C p s (l.drop j) ≤ C p s l := C_drop hs hsp _ l (Nat.le_refl _) hw j
theorem C_mono2 {l : List Tri} (hs : 2 ≤ s) (hsp : s ≤ p) (hw : ∀ x ∈ l, WOk p x) {i j : Nat} (h : i ≤ j) : C p s (l.drop j) ≤ C p s (l.drop i) := by
  have := C_mono (l := l.drop i) hs hsp (fun x hx => hw x (List.mem_of_mem_drop hx)) (j - i)
  rw [List.drop_drop, show i + (j - i) = j by omega] at this
  exact this
theorem C_le {l : List Tri} (hs : 2 ≤ s) (hsp : s ≤ p) (hw : ∀ x ∈ l, WOk p x) {b : Int} (b0 : 0 ≤ b) (b1 : b ≤ p - s) : C p s l ≤ 1 + C p s (l.drop (runN l b s)) := by
  cases l with
  | nil => simp [C_nil]
  | cons x r =>
    rw [C_cons (hw x (by simp)) hs hsp]
    have := C_mono2 (l := x :: r) hs hsp hw (mx_ge (l := x :: r) b0 b1)
    omega

theorem workOf_b (x : Tri) : (workOf x).b = x.b := by unfold workOf; split <;> rfl
theorem workOf_ok {h n : Int} {x : Tri} (hf : Fine p s h n x) (ha : x.a ≠ 1) : WOk p (workOf x) := by
  refine ⟨?_, by rw [workOf_b]; exact hf.b0, by rw [workOf_b]; exact hf.b1, fun e => ?_, ?_⟩
  · unfold workOf; split <;> simp
  · unfold workOf at e ⊢
    split
    · rfl
    · rename_i h3; rw [if_neg h3] at e; simp at e
  · unfold workOf
    split
    · rfl
    · exact hf.w
theorem okS_works : ∀ (g : List Tri) (h n : Int), okS p s h n g → ∀ x ∈ worksOf g, WOk p x
  | [], _, _, _, x, hx => by simp [worksOf] at hx
  | y :: r, h, n, hok, x, hx => by
    unfold okS at hok
    by_cases ha : y.a = 1
    · rw [if_pos ha] at hok
      rw [worksOf_cons1 ha] at hx
      exact okS_works r _ _ hok.2 x hx
    · rw [if_neg ha] at hok
      rw [worksOf_cons2 ha, List.mem_cons] at hx
      rcases hx with rfl | hx
      · exact workOf_ok hok.1 ha
      · exact okS_works r _ _ hok.2 x hx
theorem okS_opt (hs : 2 ≤ s) (hsp : s ≤ p) : ∀ (g : List Tri) (h n : Int), okS p s h n g → C p s ((worksOf g).drop (runN (worksOf g) h s)) ≤ reachesN g
  | [], _, _, _ => by simp [worksOf, C_nil]
  | y :: r, h, n, hok => by
    have hw := okS_works (y :: r) h n hok
    unfold okS at hok
    by_cases ha : y.a = 1
    · rw [if_pos ha] at hok
      rw [worksOf_cons1 ha] at hw ⊢
      rw [reachesN_one _ ha]
      have ih := okS_opt hs hsp r _ _ hok.2
      have h1 := C_mono hs hsp hw (runN (worksOf r) h s)
      have h2 := C_le hs hsp hw hok.1.b0 (hok.1.r ha)
      omega
    · rw [if_neg ha] at hok
      have ih := okS_opt hs hsp r _ _ hok.2
      rw [worksOf_cons2 ha, runN_held (by rw [workOf_b]; exact hok.1.held ha), List.drop_succ_cons, reachesN_step1 _ _ ha]
      exact ih

/-- no instructions that make the works in their order have fewer reaches -/
theorem C_opt (hs : 2 ≤ s) (hsp : s ≤ p) {g : List Tri} {n : Int} (hok : okS p s (-1) n g) : C p s (worksOf g) ≤ reachesN g := by
  have := okS_opt hs hsp g _ _ hok
  rw [runN_neg, List.drop_zero] at this
  exact this

/-! ### windows -/
def costW (p s : Int) : List Tri → Int → Int → Int
  | [], _, _ => 0
  | x :: r, lo, hi => nn (joinB p s x lo hi) + costW p s r (nlo s x lo (joinB p s x lo hi)) (nhi p s x hi (joinB p s x lo hi))
def IsMx (s : Int) (l : List Tri) (lo hi : Int) (k : Nat) : Prop := (∃ h : Int, lo ≤ h ∧ h ≤ hi ∧ runN l h s = k) ∧ ∀ h : Int, lo ≤ h → h ≤ hi → runN l h s ≤ k

theorem win_held {x : Tri} {h : Int} (h0 : 0 ≤ h) (h1 : h ≤ p - s) : heldB h s x.b = true ↔ wlo s x ≤ h ∧ h ≤ whi p s x := by
  rw [held_iff]; unfold wlo whi; omega
theorem win_bd {x : Tri} (hx : WOk p x) (hs : 2 ≤ s) (hsp : s ≤ p) : 0 ≤ wlo s x ∧ whi p s x ≤ p - s ∧ wlo s x ≤ whi p s x := by
  have := hx.b0; have := hx.b1; unfold wlo whi; omega

theorem isMx_fresh {x : Tri} {r : List Tri} (hx : WOk p x) (hs : 2 ≤ s) (hsp : s ≤ p) : ∃ m, mx p s (x :: r) = m + 1 ∧ IsMx s r (wlo s x) (whi p s x) m := by
  have hm := mx_pos (r := r) hx hs hsp
  obtain ⟨m, hm'⟩ : ∃ m, mx p s (x :: r) = m + 1 := ⟨mx p s (x :: r) - 1, by omega⟩
  obtain ⟨w0, w1, w2⟩ := win_bd hx hs hsp
  refine ⟨m, hm', ?_, fun h h0 h1 => ?_⟩
  · obtain ⟨b, b0, b1, b2⟩ := mx_at (s := s) (x :: r) hsp
    have hh : heldB b s x.b = true := by
      cases hh : heldB b s x.b
      · rw [runN_not hh] at b2; omega
      · rfl
    rw [runN_held hh] at b2
    have := (win_held b0 b1).1 hh
    exact ⟨b, this.1, this.2, by omega⟩
  · have hh := (win_held (p := p) (s := s) (x := x) (h := h) (by omega) (by omega)).2 ⟨h0, h1⟩
    have := mx_ge (l := x :: r) (p := p) (s := s) (h := h) (by omega) (by omega)
    rw [runN_held hh] at this
    omega

theorem costW_eq (hs : 2 ≤ s) (hsp : s ≤ p) : ∀ (l : List Tri) (lo hi : Int) (k : Nat), (∀ x ∈ l, WOk p x) → 0 ≤ lo → hi ≤ p - s → lo ≤ hi → IsMx s l lo hi k → costW p s l lo hi = C p s (l.drop k)
  | [], lo, hi, k, _, _, _, _, _ => by simp [costW, C_nil]
  | x :: r, lo, hi, k, hw, h0, h1, h2, ⟨⟨h, g0, g1, g2⟩, hup⟩ => by
    have hx := hw x (by simp)
    have hr : ∀ y ∈ r, WOk p y := fun y hy => hw y (by simp [hy])
    obtain ⟨w0, w1, w2⟩ := win_bd hx hs hsp
    unfold costW
    cases hj : joinB p s x lo hi
    · have hk : k = 0 := by
        rw [← g2]
        refine runN_not ?_
        cases hh : heldB h s x.b
        · rfl
        · have := (win_held (p := p) (by omega) (by omega)).1 hh
          unfold joinB at hj
          simp only [Bool.and_eq_false_iff, decide_eq_false_iff_not] at hj
          omega
      obtain ⟨m, hm, hmx⟩ := isMx_fresh (r := r) hx hs hsp
      subst hk
      rw [List.drop_zero, C_cons hx hs hsp, hm, List.drop_succ_cons]
      have := costW_eq hs hsp r (wlo s x) (whi p s x) m hr w0 w1 w2 hmx
      simp only [nn, nlo, nhi, Bool.false_eq_true, if_false]
      rw [this]
      omega
    · have hj' := hj
      unfold joinB at hj'
      simp only [Bool.and_eq_true, decide_eq_true_eq] at hj'
      have hh : heldB (max (wlo s x) lo) s x.b = true := (win_held (p := p) (by omega) (by omega)).2 (by omega)
      have hk1 : 1 ≤ k := by
        have := hup (max (wlo s x) lo) (by omega) (by omega)
        rw [runN_held hh] at this
        omega
      obtain ⟨k', rfl⟩ : ∃ k', k = k' + 1 := ⟨k - 1, by omega⟩
      have hheld : heldB h s x.b = true := by
        cases hh : heldB h s x.b
        · rw [runN_not hh] at g2; omega
        · rfl
      rw [runN_held hheld] at g2
      have hwin := (win_held (p := p) (by omega) (by omega)).1 hheld
      rw [List.drop_succ_cons]
      simp only [nn, nlo, nhi, if_true]
      rw [costW_eq hs hsp r (max (wlo s x) lo) (min (whi p s x) hi) k' hr (by omega) (by omega) (by omega) ⟨⟨h, by omega, by omega, by omega⟩, fun q q0 q1 => ?_⟩]
      · omega
      · have hq := (win_held (p := p) (s := s) (x := x) (h := q) (by omega) (by omega)).2 (by omega)
        have := hup q (by omega) (by omega)
        rw [runN_held hq] at this
        omega
theorem costW_C {l : List Tri} (hs : 2 ≤ s) (hsp : s ≤ p) (hw : ∀ x ∈ l, WOk p x) : costW p s l 1 0 = C p s l := by
  cases l with
  | nil => simp [costW, C_nil]
  | cons x r =>
    have hx := hw x (by simp)
    have hr : ∀ y ∈ r, WOk p y := fun y hy => hw y (by simp [hy])
    obtain ⟨w0, w1, w2⟩ := win_bd hx hs hsp
    obtain ⟨m, hm, hmx⟩ := isMx_fresh (r := r) hx hs hsp
    unfold costW
    have hj : joinB p s x 1 0 = false := by unfold joinB; simp
    rw [hj, C_cons hx hs hsp, hm, List.drop_succ_cons]
    simp only [nn, nlo, nhi, Bool.false_eq_true, if_false]
    rw [costW_eq hs hsp r (wlo s x) (whi p s x) m hr w0 w1 w2 hmx]
    omega
end
end Go.Proofs.Ytfnklchhhojimaa

namespace Go.Proofs.Ytfnklchhhojimaa
open Go Go.RowKit Tor

/-- the bits name what is made -/
def Bits (n d : Nat) (M : List Nat) : Prop := ∀ i, i < n → d.testBit i = M.contains i
theorem bits_zero (n : Nat) : Bits n 0 [] := fun i _ => by simp
theorem bits_or {n d i : Nat} {M : List Nat} (h : Bits n d M) : Bits n (d ||| 2 ^ i) (M ++ [i]) := fun j hj => by
  rw [Nat.testBit_or, Nat.testBit_two_pow, h j hj]
  simp only [List.contains_eq_mem, List.mem_append, List.mem_singleton]
  by_cases e : i = j
  · subst e; simp
  · have e' : ¬ j = i := fun h => e h.symm
    simp [e, e']

section
variable {p s : Int} {l : List Tri}
theorem free_rdy {d i : Nat} {M : List Nat} (hi : i < l.length) (h10 : l.length ≤ 10) (hd : d < 2 ^ l.length) (hB : Bits l.length d M) : freeB (bfL l) d i = rdyB l M i := by
  have hd2 := two_pow_le h10
  have hbi := bfAt_lt (l := l) (i := i) (by omega)
  unfold freeB rdyB
  rw [bfL_get hi, hB i hi, Bool.and_comm]
  congr 1
  rw [Bool.eq_iff_iff, decide_eq_true_eq, dif_zero (by omega) (by omega)]
  simp only [List.all_eq_true, List.mem_range, Bool.or_eq_true, Bool.not_eq_true']
  constructor
  · intro h j hj
    have := h j
    rw [bfAt, bitsUpto_bit] at this
    cases ht : touchAt l i j
    · exact Or.inr rfl
    · left
      rw [← hB j (by omega)]
      exact this (by simp [hj, ht])
  · intro h k hk
    rw [bfAt, bitsUpto_bit] at hk
    simp only [Bool.and_eq_true, decide_eq_true_eq] at hk
    rcases h k hk.1 with h1 | h1
    · rw [hB k (by omega)]; exact h1
    · rw [hk.2] at h1; cases h1
theorem bits_full {n d : Nat} {M : List Nat} (hd : d < 2 ^ n) (hB : Bits n d M) (hM : ∀ i, i < n → i ∈ M) : d = 2 ^ n - 1 := by
  refine Nat.eq_of_testBit_eq fun i => ?_
  rw [Nat.testBit_two_pow_sub_one]
  by_cases hi : i < n
  · rw [hB i hi]; simp [hM i hi, hi]
  · simp only [hi, decide_false]
    exact Nat.testBit_lt_two_pow (Nat.lt_of_lt_of_le hd (Nat.pow_le_pow_right (by omega) (by omega)))
theorem bits_notfull {n d i : Nat} {M : List Nat} (hB : Bits n d M) (hi : i < n) (hM : i ∉ M) : d ≠ 2 ^ n - 1 := fun e => by
  have := hB i hi
  rw [e, Nat.testBit_two_pow_sub_one] at this
  simp [hi, hM] at this
theorem rdyB_new {M : List Nat} {i : Nat} (h : rdyB l M i = true) : i ∉ M := by
  unfold rdyB at h
  simp only [Bool.and_eq_true, Bool.not_eq_true', List.contains_eq_mem, decide_eq_false_iff_not] at h
  exact h.2
theorem or_lt {n d i : Nat} (hd : d < 2 ^ n) (hi : i < n) : d ||| 2 ^ i < 2 ^ n := Nat.or_lt_two_pow hd (Nat.pow_lt_pow_right (by omega) hi)


/-- no order has fewer reaches -/
theorem few_le (h10 : l.length ≤ 10) : ∀ (O M : List Nat) (d : Nat) (lo hi : Int), LinExt l M O → M.Nodup → (∀ x ∈ M, x < l.length) → l.length ≤ O.length + M.length → Bits l.length d M → d < 2 ^ l.length →
    few p s l (bfL l) d lo hi ≤ costW p s (O.map (xAt l)) lo hi
  | [], M, d, lo, hi, _, hnd, hM, hl, hB, hd => by
    have hall := all_made hnd hM (by simpa using hl)
    rw [few_full (bits_full hd hB hall)]
    exact Int.le_refl _
  | i :: r, M, d, lo, hi, hlin, hnd, hM, hl, hB, hd => by
    unfold LinExt at hlin
    obtain ⟨hi', hr, hlin⟩ := hlin
    have hiM := rdyB_new hr
    obtain ⟨h1, h2⟩ := snoc_ok hnd hM hi' hiM
    have hne := bits_notfull hB hi' hiM
    have hf : freeB (bfL l) d i = true := by rw [free_rdy hi' h10 hd hB]; exact hr
    rw [few_eq hd hne]
    have hc := cost_def (p := p) (s := s) (l := l) (lo := lo) (hi := hi) hf
    have hm := minUpto_le (n0 := (l.length : Int)) hi' hc
    have ih := few_le h10 r (M ++ [i]) (d ||| 2 ^ i) (nlo s (xAt l i) lo (joinB p s (xAt l i) lo hi)) (nhi p s (xAt l i) hi (joinB p s (xAt l i) lo hi)) hlin h1 h2 (by simp at hl ⊢; omega) (bits_or hB) (or_lt hd hi')
    rw [List.map_cons, costW]
    omega

theorem bits_bf (h10 : l.length ≤ 10) : ∀ k, k < l.length → (bfL l).getD k 0 < 1024 := fun k hk => by rw [bfL_get hk]; exact bfAt_lt (by omega)

/-- the order that is taken -/
theorem bsel_spec (h10 : l.length ≤ 10) : ∀ (k : Nat) (M : List Nat) (d : Nat) (lo hi : Int), M.Nodup → (∀ x ∈ M, x < l.length) → zeros l.length d = k → Bits l.length d M → d < 2 ^ l.length →
    LinExt l M (bsel p s l (bfL l) k d lo hi) ∧ (bsel p s l (bfL l) k d lo hi).length = k ∧ costW p s ((bsel p s l (bfL l) k d lo hi).map (xAt l)) lo hi = few p s l (bfL l) d lo hi
  | 0, M, d, lo, hi, hnd, hM, hz, hB, hd => by
    rw [few_full (zeros_full hd hz)]
    exact ⟨trivial, rfl, rfl⟩
  | k + 1, M, d, lo, hi, hnd, hM, hz, hB, hd => by
    have hne : d ≠ 2 ^ l.length - 1 := fun e => by
      have : zeros l.length d = 0 := by
        unfold zeros
        rw [List.length_eq_zero_iff, List.filter_eq_nil_iff]
        intro i hi
        have hi' : i < l.length := by simpa using hi
        rw [e, Nat.testBit_two_pow_sub_one]; simp [hi']
      omega
    obtain ⟨i, hp⟩ := pick_some (p := p) (s := s) (lo := lo) (hi := hi) (bfL_ok l) (bits_bf h10) h10 hd hne
    obtain ⟨hi', hcost, _⟩ := pick_spec hp
    have hf := cost_isfree hcost
    have hr : rdyB l M i = true := by rw [← free_rdy hi' h10 hd hB]; exact hf
    have hiM := rdyB_new hr
    obtain ⟨h1, h2⟩ := snoc_ok hnd hM hi' hiM
    have hz2 := zeros_or hi' (freeB_bit hf)
    obtain ⟨i1, i2, i3⟩ := bsel_spec h10 k (M ++ [i]) (d ||| 2 ^ i) (nlo s (xAt l i) lo (joinB p s (xAt l i) lo hi)) (nhi p s (xAt l i) hi (joinB p s (xAt l i) lo hi)) h1 h2 (by omega) (bits_or hB) (or_lt hd hi')
    have hc := cost_def (p := p) (s := s) (l := l) (lo := lo) (hi := hi) hf
    rw [hcost] at hc
    unfold bsel
    rw [hp]
    refine ⟨⟨hi', hr, i1⟩, by simp [i2], ?_⟩
    rw [List.map_cons, costW, i3]
    simpa using hc.symm
theorem zeros_all0 (n : Nat) : zeros n 0 = n := by
  unfold zeros
  rw [List.filter_eq_self.2 (by simp)]
  simp
theorem mem_xAt {i : Nat} (hi : i < l.length) : xAt l i ∈ l := by rw [xAt_of hi]; exact List.getElem_mem hi
theorem lin_lt : ∀ (O M : List Nat), LinExt l M O → ∀ i ∈ O, i < l.length
  | [], _, _, i, hi => by simp at hi
  | j :: r, M, h, i, hi => by
    unfold LinExt at h
    rcases List.mem_cons.1 hi with rfl | hi
    · exact h.1
    · exact lin_lt r _ h.2.2 i hi
theorem lin_wok (hw : ∀ x ∈ l, WOk p x) {O M : List Nat} (h : LinExt l M O) : ∀ x ∈ O.map (xAt l), WOk p x := fun x hx => by
  obtain ⟨i, hi, rfl⟩ := List.mem_map.1 hx
  exact hw _ (mem_xAt (lin_lt O M h i hi))
theorem lin_nodup : ∀ (O M : List Nat), LinExt l M O → M.Nodup → (M ++ O).Nodup
  | [], M, _, h => by simpa using h
  | j :: r, M, h, hnd => by
    unfold LinExt at h
    have hj := rdyB_new h.2.1
    have h1 : (M ++ [j]).Nodup := by
      rw [List.nodup_append]
      exact ⟨hnd, by simp, fun x hx y hy e => by simp at hy; subst hy; subst e; exact hj hx⟩
    have := lin_nodup r (M ++ [j]) h.2.2 h1
    simpa using this


/-- the order of Best, and that no order has fewer reaches -/
def bestO (p s : Int) (l : List Tri) : List Nat := bsel p s l (bfL l) l.length 0 1 0
theorem bestO_lin (h10 : l.length ≤ 10) : LinExt l [] (bestO p s l) ∧ (bestO p s l).length = l.length := by
  have := bsel_spec (p := p) (s := s) h10 l.length [] 0 1 0 List.nodup_nil (by simp) (zeros_all0 _) (bits_zero _) (Nat.two_pow_pos _)
  exact ⟨this.1, this.2.1⟩
theorem bestO_opt (hs : 2 ≤ s) (hsp : s ≤ p) (h10 : l.length ≤ 10) (hw : ∀ x ∈ l, WOk p x) {O : List Nat} (hO : LinExt l [] O) (hl : O.length = l.length) :
    C p s ((bestO p s l).map (xAt l)) ≤ C p s (O.map (xAt l)) := by
  obtain ⟨h1, h2, h3⟩ := bsel_spec (p := p) (s := s) h10 l.length [] 0 1 0 List.nodup_nil (by simp) (zeros_all0 _) (bits_zero _) (Nat.two_pow_pos _)
  have h4 := few_le (p := p) (s := s) h10 O [] 0 1 0 hO List.nodup_nil (by simp) (by simp; omega) (bits_zero _) (Nat.two_pow_pos _)
  rw [← h3] at h4
  have e1 : costW p s ((bestO p s l).map (xAt l)) 1 0 = C p s ((bestO p s l).map (xAt l)) := costW_C hs hsp (lin_wok hw h1)
  rw [costW_C hs hsp (lin_wok hw hO)] at h4
  unfold bestO at e1 ⊢
  rw [e1] at h4
  omega
end
end Go.Proofs.Ytfnklchhhojimaa

namespace Go.Proofs.Ytfnklchhhojimaa
open Go Go.RowKit Tor

theorem lin_at {l : List Tri} : ∀ (O M : List Nat), LinExt l M O → ∀ (j : Nat) (hj : j < O.length), O[j] < l.length ∧ rdyB l (M ++ O.take j) O[j] = true
  | [], _, _, j, hj => by simp at hj
  | i :: r, M, h, 0, hj => by
    unfold LinExt at h
    simpa using ⟨h.1, h.2.1⟩
  | i :: r, M, h, j + 1, hj => by
    unfold LinExt at h
    have := lin_at r (M ++ [i]) h.2.2 j (by simpa using hj)
    simpa using this

/-- an equal work that comes earlier is not ready -/
theorem lin_first {l : List Tri} {M : List Nat} {i k : Nat} (hk : k < l.length) (hr : rdyB l M k = true) (hi : i < k) (he : l[i] = l[k]) : rdyB l M i = false := by
  have hk2 := (rdyB_iff hk).1 hr
  cases hri : rdyB l M i
  · rfl
  · have hi2 := (rdyB_iff (by omega)).1 hri
    exact absurd (by rw [he]; omega) (hk2.2.2 i hi hi2.2.1)
def natI (O : List Nat) : List Int := List.map (fun i : Nat => (i : Int)) O
theorem natI_snoc (O : List Nat) (i : Nat) : natI (O ++ [i]) = natI O ++ [(i : Int)] := by simp [natI]
theorem natI_len (O : List Nat) : (natI O).length = O.length := by simp [natI]


end Go.Proofs.Ytfnklchhhojimaa

namespace Go.Proofs.Ytfnklchhhojimaa
open Go Go.RowKit Tor

theorem wordE_size {s : ByteArray} (h : wordE s = 0) : s.size ≤ 16 := by
  unfold wordE at h
  split at h
  · cases h
  · omega
theorem sheetE_of {p : Int} {L : List Tri} (h2 : 2 ≤ p) (h24 : p ≤ 24) (hn : L.length ≤ 400) (hw : ∀ x ∈ L, WOk p x) : sheetE p L = 0 := by
  have a1 : L.any longW = false := by
    rw [List.any_eq_false]
    intro x hx
    have := wordE_size (hw x hx).w
    unfold longW
    simp; omega
  have a2 : L.any (badW p) = false := by
    rw [List.any_eq_false]
    intro x hx
    have hx' := hw x hx
    have : badW p x = false := by
      rw [badW_false]
      have := hx'.k; have := hx'.b0; have := hx'.b1; have := hx'.e
      omega
    simp [this]
  have a3 : L.any wrongW = false := by
    rw [List.any_eq_false]
    intro x hx
    unfold wrongW
    simp [(hw x hx).w]
  unfold sheetE
  rw [if_neg (by rw [a1]; simp; omega), if_neg (by omega), if_neg (by simp [a2]), if_neg (by simp [a3])]
theorem wok_words {p : Int} {L : List Tri} (hw : ∀ x ∈ L, WOk p x) : ∀ (k : Nat) (hk : k < L.length), L[k].s.size ≤ 9223372036854775807 := fun k hk => by
  have := wordE_size (hw _ (List.getElem_mem hk)).w; omega
theorem wok_b {p : Int} {L : List Tri} (hw : ∀ x ∈ L, WOk p x) : ∀ (k : Nat) (hk : k < L.length), 0 ≤ L[k].b ∧ L[k].b ≤ p - 2 := fun k hk => ⟨(hw _ (List.getElem_mem hk)).b0, (hw _ (List.getElem_mem hk)).b1⟩
theorem okS_words {p s : Int} : ∀ (g : List Tri) (h n : Int), okS p s h n g → ∀ x ∈ g, x.s.size ≤ 9223372036854775807
  | [], _, _, _, x, hx => by simp at hx
  | y :: r, h, n, hok, x, hx => by
    unfold okS at hok
    rcases List.mem_cons.1 hx with rfl | hx
    · have := wordE_size hok.1.w; omega
    · by_cases ha : y.a = 1
      · rw [if_pos ha] at hok; exact okS_words r _ _ hok.2 x hx
      · rw [if_neg ha] at hok; exact okS_words r _ _ hok.2 x hx


/-- instructions that were returned -/
def InsPost (L : List Tri) (w : World) (e : Ending) (w' : World) : Prop := ∃ (A : Option Addr) (c : Nat), e = .returned (.tuple #[.slice A L.length c, .int .i64 0]) ∧ RdT w' w'.heap.size A L ∧ Below w.heap.size w w'

/-- instructions that are fine make their works -/
theorem rsheet_ok (p s : Int) (A : Option Addr) (L M : List Tri) (c : Nat) (w : World) (H : Nat) (hr : RdT w H A L) (hH : H ≤ w.heap.size) (hh : handsE p s = 0) (hl : L.length ≤ 1000) (hok : okS p s (-1) 0 L) (hM : worksOf L = M) :
    Calls Try.prog 7 #[.int .i64 p, .int .i64 s, .slice A L.length c] w fun e w' => ∃ (A' : Option Addr) (c' : Nat), e = .returned (.tuple #[.agg #[.int .i64 p, .slice A' M.length c'], .int .i64 0, .int .i64 0]) ∧ Own 3 Tri.enc w' w.heap.size 54 (.slice A' M.length c') M ∧ M.length ≤ c' ∧ Below w.heap.size w w' := by
  refine (rsheet_any p s A L c w H hr hH (fun k hk => okS_words L _ _ hok _ (List.getElem_mem hk)) (by omega)).mono fun e w' ⟨v, h1, h2, h3⟩ => ?_
  have e1 := sheetR_ok hh hl hok
  rw [e1, hM] at h1 h2
  obtain ⟨A', c', hv, hc, hd⟩ := Own.rd tri_len h2
  subst hv
  exact ⟨A', c', h1, h2, hc, h3⟩
end Go.Proofs.Ytfnklchhhojimaa

namespace Go.Proofs.Ytfnklchhhojimaa
open Go Go.RowKit Tor

section
variable {p s : Int} {l : List Tri}
theorem lin_mseq {h s : Int} : ∀ (k : Nat) (M : List Nat), LinExt l M (mseq l h s k M)
  | 0, M => trivial
  | k + 1, M => by
    unfold mseq
    by_cases hn : 0 ≤ nextUpto l M h s l.length
    · rw [if_pos hn]
      obtain ⟨i, e, hi, hc⟩ := next_can hn
      rw [e]
      unfold canB at hc
      simp only [Bool.and_eq_true] at hc
      exact ⟨hi, hc.2, lin_mseq k _⟩
    · rw [if_neg hn]; trivial

/-- the least order -/
def leastO (l : List Tri) : List Nat := mseq l 0 100 l.length []
theorem next_least {M : List Nat} (hb : ∀ (k : Nat) (hk : k < l.length), 0 ≤ l[k].b ∧ l[k].b ≤ 22) (hM : M.length < l.length) : 0 ≤ nextUpto l M 0 100 l.length := by
  obtain ⟨i, hi, hiM, hall⟩ := exists_not_mem hM
  have hr : rdy l M i := ⟨hi, hiM, fun j hj hjM => absurd (hall j hj) hjM⟩
  have hc : canB l M 0 100 i = true := by
    unfold canB
    rw [(rdyB_iff hi).2 hr, (held_iff _ _ _).2 (by rw [xAt_of hi]; have := hb i hi; omega)]; rfl
  rcases nextUpto_spec l M 0 100 l.length with ⟨_, hn⟩ | ⟨j, e, _⟩
  · rw [hn i hi] at hc; cases hc
  · rw [e]; omega
theorem leastO_lin (hb : ∀ (k : Nat) (hk : k < l.length), 0 ≤ l[k].b ∧ l[k].b ≤ 22) : LinExt l [] (leastO l) ∧ (leastO l).length = l.length := by
  refine ⟨lin_mseq _ _, ?_⟩
  have h1 := mseq_ok (l := l) (h := 0) (s := 100) l.length [] List.nodup_nil (by simp)
  have h2 := len_of_nodup _ _ h1.1 h1.2
  have h3 := mseq_end (l := l) (h := 0) (s := 100) l.length [] List.nodup_nil (by simp) (by simp)
  rw [List.nil_append] at h2 h3
  rcases Nat.lt_or_ge (leastO l).length l.length with hlt | hge
  · have := next_least hb hlt
    unfold leastO at this
    omega
  · unfold leastO at hge ⊢; omega

theorem touch_symm (x y : Int) : touchB x y = touchB y x := by unfold touchB; rw [Bool.and_comm]
theorem lin_range : ∀ (k m : Nat), k + m = l.length → LinExt l (List.range m) (List.range' m k)
  | 0, m, h => trivial
  | k + 1, m, h => by
    rw [List.range'_succ]
    refine ⟨by omega, ?_, ?_⟩
    · unfold rdyB
      simp only [Bool.and_eq_true, List.all_eq_true, List.mem_range, Bool.or_eq_true, Bool.not_eq_true', List.contains_eq_mem, decide_eq_true_eq, decide_eq_false_iff_not]
      exact ⟨fun k hk => Or.inl hk, by omega⟩
    · have := lin_range k (m + 1) (by omega)
      rw [List.range_succ] at this
      exact this
theorem lin_id : LinExt l [] (List.range l.length) := by
  have := lin_range (l := l) l.length 0 (by omega)
  rw [List.range_zero, ← List.range_eq_range'] at this
  exact this
theorem map_id' : (List.range l.length).map (xAt l) = l := by
  apply List.ext_getElem
  · simp
  · intro k h1 h2
    rw [List.getElem_map, List.getElem_range, xAt_of h2]

variable {A : List Nat}
theorem lin_full (hA : LinExt l [] A) (hl : A.length = l.length) : A.Nodup ∧ (∀ i ∈ A, i < l.length) ∧ ∀ i, i < l.length → i ∈ A := by
  have h1 : A.Nodup := by simpa using lin_nodup A [] hA List.nodup_nil
  have h2 := lin_lt A [] hA
  exact ⟨h1, h2, all_made h1 h2 (by omega)⟩
theorem xAt_map {j : Nat} (hj : j < A.length) : xAt (A.map (xAt l)) j = xAt l A[j] := by
  rw [xAt_of (by simpa using hj), List.getElem_map]

/-- an order of a sheet, as an order of the sheet that lies in another order -/
theorem lin_comp (hA : LinExt l [] A) (hl : A.length = l.length) : ∀ (suf pre : List Nat), (∀ i ∈ pre, i < l.length) → LinExt l pre suf → LinExt (A.map (xAt l)) (pre.map A.idxOf) (suf.map A.idxOf)
  | [], pre, _, _ => trivial
  | b :: r, pre, hpre, h => by
    obtain ⟨f1, f2, f3⟩ := lin_full hA hl
    unfold LinExt at h
    obtain ⟨hb, hr, hrest⟩ := h
    have hbA := f3 b hb
    have hib : A.idxOf b < A.length := List.idxOf_lt_length_of_mem hbA
    have hgb : A[A.idxOf b] = b := List.getElem_idxOf hib
    have hr2 := (rdyB_iff hb).1 hr
    rw [List.map_cons]
    refine ⟨by simpa using hib, ?_, ?_⟩
    · rw [rdyB_iff (by simpa using hib)]
      refine ⟨by simpa using hib, ?_, fun j hj hjp => ?_⟩
      · rw [List.mem_map]
        rintro ⟨b', hb', e⟩
        have hb'A : b' ∈ A := f3 b' (hpre b' hb')
        have hib' : A.idxOf b' < A.length := List.idxOf_lt_length_of_mem hb'A
        have : b' = b := by
          rw [← List.getElem_idxOf hib', ← hgb]
          congr 1
        subst this
        exact hr2.2.1 hb'
      · intro ht
        have hjA : j < A.length := by omega
        have hja := lin_at A [] hA j hjA
        rw [List.nil_append] at hja
        have ha2 := (rdyB_iff hja.1).1 hja.2
        have hidx : A.idxOf A[j] = j := List.Nodup.idxOf_getElem f1 j hjA
        have hne : A[j] ≠ b := fun e => by rw [e] at hidx; omega
        have e1 : (A.map (xAt l))[j]'(by simpa using hjA) = l[A[j]]'hja.1 := by rw [List.getElem_map, xAt_of hja.1]
        have e2 : (A.map (xAt l))[A.idxOf b]'(by simpa using hib) = l[b]'hb := by rw [List.getElem_map, hgb, xAt_of hb]
        rw [e1, e2] at ht
        rcases Nat.lt_or_ge A[j] b with hlt | hge
        · have hin : A[j] ∈ pre := Classical.byContradiction fun hn => hr2.2.2 A[j] hlt hn ht
          exact hjp (by rw [List.mem_map]; exact ⟨A[j], hin, hidx⟩)
        · have hin : b ∈ A.take j := Classical.byContradiction fun hn => ha2.2.2 b (by omega) hn ⟨ht.2, ht.1⟩
          obtain ⟨i, hi, he⟩ := List.getElem_of_mem hin
          rw [List.length_take] at hi
          rw [List.getElem_take] at he
          have : A.idxOf b = i := by rw [← he]; exact List.Nodup.idxOf_getElem f1 i (by omega)
          omega
    · have := lin_comp hA hl r (pre ++ [b]) (fun i hi => by
        rcases List.mem_append.1 hi with hi | hi
        · exact hpre i hi
        · simp at hi; subst hi; exact hb) hrest
      rw [List.map_append] at this
      exact this
theorem comp_map (hA : LinExt l [] A) (hl : A.length = l.length) {B : List Nat} (hB : ∀ i ∈ B, i < l.length) : (B.map A.idxOf).map (xAt (A.map (xAt l))) = B.map (xAt l) := by
  obtain ⟨f1, f2, f3⟩ := lin_full hA hl
  rw [List.map_map]
  refine List.map_congr_left fun b hb => ?_
  have hib : A.idxOf b < A.length := List.idxOf_lt_length_of_mem (f3 b (hB b hb))
  show xAt (A.map (xAt l)) (A.idxOf b) = xAt l b
  rw [xAt_map hib, List.getElem_idxOf hib]


/-- Best of the works in another order: no order has fewer reaches -/
theorem best_comp (hs : 2 ≤ s) (hsp : s ≤ p) (hw : ∀ x ∈ l, WOk p x) (h10 : l.length ≤ 10) (hA : LinExt l [] A) (hl : A.length = l.length) {B : List Nat} (hB : LinExt l [] B) (hlB : B.length = l.length) :
    C p s ((bestO p s (A.map (xAt l))).map (xAt (A.map (xAt l)))) ≤ C p s (B.map (xAt l)) := by
  have hm : (A.map (xAt l)).length = l.length := by rw [List.length_map, hl]
  have h1 := lin_comp hA hl B [] (by simp) hB
  have h2 := bestO_opt (l := A.map (xAt l)) hs hsp (by omega) (lin_wok hw hA) h1 (by rw [List.length_map, hlB, hm])
  rw [comp_map hA hl (lin_lt B [] hB)] at h2
  exact h2
end

end Go.Proofs.Ytfnklchhhojimaa

namespace Go.Proofs.Ytfnklchhhojimaa
open Go Go.RowKit Tor

section
variable {p s : Int}
/-- the works lie mirrored -/
def Mir (p : Int) (T l : List Tri) : Prop := T.map (·.b) = l.map fun x => p - 2 - x.b
theorem Mir.len {T l : List Tri} (h : Mir p T l) : T.length = l.length := by
  have := congrArg List.length h
  simpa using this
theorem Mir.drop {T l : List Tri} (h : Mir p T l) (k : Nat) : Mir p (T.drop k) (l.drop k) := by
  unfold Mir at h ⊢
  rw [List.map_drop, List.map_drop, h]
theorem Mir.at {T l : List Tri} (h : Mir p T l) {k : Nat} (hT : k < T.length) (hl : k < l.length) : T[k].b = p - 2 - l[k].b := by
  have h1 : (T.map (·.b))[k]? = (l.map fun x => p - 2 - x.b)[k]? := by rw [h]
  rw [List.getElem?_map, List.getElem?_map, List.getElem?_eq_getElem hT, List.getElem?_eq_getElem hl] at h1
  simpa using h1
theorem Mir.xAt {T l : List Tri} (h : Mir p T l) {k : Nat} (hl : k < l.length) : (xAt T k).b = p - 2 - (xAt l k).b := by
  have hT : k < T.length := by rw [h.len]; exact hl
  rw [xAt_of hT, xAt_of hl]
  exact h.at hT hl
theorem held_mir {h b : Int} (h0 : 0 ≤ h) (h1 : h ≤ p - s) : heldB (p - s - h) s (p - 2 - b) = heldB h s b := by
  rw [Bool.eq_iff_iff, held_iff, held_iff]; omega
theorem runN_mir {h : Int} (h0 : 0 ≤ h) (h1 : h ≤ p - s) : ∀ (T l : List Tri), Mir p T l → runN T (p - s - h) s = runN l h s
  | [], [], _ => rfl
  | [], x :: r, hm => by have := hm.len; simp at this
  | y :: t, [], hm => by have := hm.len; simp at this
  | y :: t, x :: r, hm => by
    unfold Mir at hm
    simp only [List.map_cons, List.cons.injEq] at hm
    have e := held_mir (p := p) (s := s) (b := x.b) h0 h1
    rw [← hm.1] at e
    cases hh : heldB h s x.b
    · rw [runN_not hh, runN_not (by rw [e]; exact hh)]
    · rw [runN_held hh, runN_held (by rw [e]; exact hh), runN_mir h0 h1 t r hm.2]
theorem mx_mir {T l : List Tri} (hm : Mir p T l) (hsp : s ≤ p) : mx p s T = mx p s l := by
  obtain ⟨b, b0, b1, b2⟩ := mx_at (s := s) T hsp
  obtain ⟨d, d0, d1, d2⟩ := mx_at (s := s) l hsp
  have h1 := mx_ge (p := p) (s := s) (l := l) (h := p - s - b) (by omega) (by omega)
  have h2 := mx_ge (p := p) (s := s) (l := T) (h := p - s - d) (by omega) (by omega)
  rw [runN_mir d0 d1 T l hm] at h2
  have h3 := runN_mir (p := p) (s := s) (h := p - s - b) (by omega) (by omega) T l hm
  rw [show p - s - (p - s - b) = b by omega] at h3
  omega
theorem C_mir (hs : 2 ≤ s) (hsp : s ≤ p) : ∀ (n : Nat) (T l : List Tri), l.length ≤ n → Mir p T l → (∀ x ∈ T, WOk p x) → (∀ x ∈ l, WOk p x) → C p s T = C p s l
  | n, [], [], _, _, _, _ => rfl
  | n, [], x :: r, _, hm, _, _ => by have := hm.len; simp at this
  | n, y :: t, [], _, hm, _, _ => by have := hm.len; simp at this
  | 0, y :: t, x :: r, hn, _, _, _ => by simp at hn
  | n + 1, y :: t, x :: r, hn, hm, hT, hl => by
    rw [C_cons (hT y (by simp)) hs hsp, C_cons (hl x (by simp)) hs hsp, mx_mir hm hsp]
    have h1 := mx_pos (r := r) (hl x (by simp)) hs hsp
    rw [C_mir hs hsp n ((y :: t).drop (mx p s (x :: r))) ((x :: r).drop (mx p s (x :: r))) (by rw [List.length_drop]; simp only [List.length_cons] at hn ⊢; omega) (hm.drop _) (fun z hz => hT z (List.mem_of_mem_drop hz)) (fun z hz => hl z (List.mem_of_mem_drop hz))]
theorem C_flip (hs : 2 ≤ s) (hsp : s ≤ p) {T l : List Tri} (hm : Mir p T l) (hT : ∀ x ∈ T, WOk p x) (hl : ∀ x ∈ l, WOk p x) : C p s T = C p s l := C_mir hs hsp _ T l (Nat.le_refl _) hm hT hl

theorem touch_mir {T l : List Tri} (hm : Mir p T l) {i k : Nat} (hi : i < l.length) (hk : k < l.length) : touchAt T i k = touchAt l i k := by
  unfold touchAt touchB
  rw [hm.xAt hi, hm.xAt hk, Bool.and_comm]
  congr 1
  · apply decide_eq_decide.2; omega
  · apply decide_eq_decide.2; omega
theorem rdy_mir {T l : List Tri} (hm : Mir p T l) {M : List Nat} {i : Nat} (hi : i < l.length) : rdyB T M i = rdyB l M i := by
  unfold rdyB
  congr 1
  rw [Bool.eq_iff_iff]
  simp only [List.all_eq_true, List.mem_range]
  constructor
  · intro h k hk
    have := h k hk
    rw [touch_mir hm hi (by omega)] at this
    exact this
  · intro h k hk
    have := h k hk
    rw [touch_mir hm hi (by omega)]
    exact this
theorem lin_mir {T l : List Tri} (hm : Mir p T l) : ∀ (O M : List Nat), LinExt T M O → LinExt l M O
  | [], M, _ => trivial
  | i :: r, M, h => by
    unfold LinExt at h
    have hi : i < l.length := by rw [← hm.len]; exact h.1
    exact ⟨hi, by rw [← rdy_mir hm hi]; exact h.2.1, lin_mir hm r _ h.2.2⟩
theorem lin_mir' {T l : List Tri} (hm : Mir p T l) : ∀ (O M : List Nat), LinExt l M O → LinExt T M O
  | [], M, _ => trivial
  | i :: r, M, h => by
    unfold LinExt at h
    exact ⟨by rw [hm.len]; exact h.1, by rw [rdy_mir hm h.1]; exact h.2.1, lin_mir' hm r _ h.2.2⟩
theorem mir_map {T l : List Tri} (hm : Mir p T l) : ∀ (O : List Nat), (∀ i ∈ O, i < l.length) → Mir p (O.map (xAt T)) (O.map (xAt l))
  | [], _ => rfl
  | i :: r, h => by
    have ih := mir_map hm r (fun j hj => h j (by simp [hj]))
    unfold Mir at ih ⊢
    rw [List.map_cons, List.map_cons, List.map_cons, List.map_cons, ih, hm.xAt (h i (by simp))]
theorem best_mir (hs : 2 ≤ s) (hsp : s ≤ p) {T l : List Tri} (hm : Mir p T l) (hT : ∀ x ∈ T, WOk p x) (hl : ∀ x ∈ l, WOk p x) (h10 : l.length ≤ 10) :
    C p s ((bestO p s T).map (xAt T)) = C p s ((bestO p s l).map (xAt l)) := by
  have e := hm.len
  obtain ⟨t1, t2⟩ := bestO_lin (p := p) (s := s) (l := T) (by omega)
  obtain ⟨l1, l2⟩ := bestO_lin (p := p) (s := s) (l := l) h10
  have a1 := bestO_opt hs hsp h10 hl (lin_mir hm _ _ t1) (by omega)
  have a2 := bestO_opt (l := T) hs hsp (by omega) hT (lin_mir' hm _ _ l1) (by omega)
  have b1 := C_flip hs hsp (mir_map hm (bestO p s T) (fun i hi => by rw [← e]; exact lin_lt _ _ t1 i hi)) (lin_wok hT t1) (lin_wok hl (lin_mir hm _ _ t1))
  have b2 := C_flip hs hsp (mir_map hm (bestO p s l) (lin_lt _ _ l1)) (lin_wok hT (lin_mir' hm _ _ l1)) (lin_wok hl l1)
  omega

theorem runN_app_lt (a b : List Tri) (h : Int) : runN (a ++ b) h s = if runN a h s < a.length then runN a h s else a.length + runN b h s := by
  induction a with
  | nil => simp [runN_nil]
  | cons x r ih =>
    cases hh : heldB h s x.b
    · rw [List.cons_append, runN_not hh, runN_not hh, if_pos (by simp)]
    · rw [List.cons_append, runN_held hh, runN_held hh, ih, List.length_cons]
      split <;> split <;> omega
theorem runN_len (a : List Tri) (h : Int) : runN a h s ≤ a.length := by
  have := runN_app_lt (s := s) a [] h
  rw [List.append_nil, runN_nil] at this
  split at this <;> omega
theorem mx_len (a : List Tri) : mx p s a ≤ a.length := runN_len _ _
theorem drop_app {α : Type} (a b : List α) {m : Nat} (h : m ≤ a.length) : (a ++ b).drop m = a.drop m ++ b := List.drop_append_of_le_length h
theorem wok_app {a b : List Tri} (ha : ∀ x ∈ a, WOk p x) (hb : ∀ x ∈ b, WOk p x) : ∀ x ∈ a ++ b, WOk p x := fun x hx => by
  rcases List.mem_append.1 hx with hx | hx
  · exact ha x hx
  · exact hb x hx
theorem C_app (hs : 2 ≤ s) (hsp : s ≤ p) {b : List Tri} (hb : ∀ x ∈ b, WOk p x) : ∀ (n : Nat) (a : List Tri), a.length ≤ n → (∀ x ∈ a, WOk p x) → C p s (a ++ b) ≤ C p s a + C p s b ∧ C p s a + C p s b ≤ C p s (a ++ b) + 1
  | n, [], _, _ => by simp [C_nil]
  | 0, x :: r, hn, _ => by simp at hn
  | n + 1, x :: r, hn, ha => by
    have hx := ha x (by simp)
    have hab := wok_app ha hb
    have m1 := mx_pos (r := r) hx hs hsp
    have ml := mx_len (p := p) (s := s) (x :: r)
    have hge : mx p s (x :: r) ≤ mx p s (x :: r ++ b) := by
      obtain ⟨h, h0, h1, h2⟩ := mx_at (s := s) (x :: r) hsp
      have := mx_ge (p := p) (s := s) (l := x :: r ++ b) h0 h1
      rw [runN_app_lt] at this
      split at this <;> omega
    have ihd := C_app hs hsp hb n ((x :: r).drop (mx p s (x :: r))) (by rw [List.length_drop]; simp only [List.length_cons] at hn ⊢; omega) (fun z hz => ha z (List.mem_of_mem_drop hz))
    rw [← drop_app _ _ ml] at ihd
    have e1 := C_cons hx hs hsp (r := r)
    have e2 := C_cons hx hs hsp (r := r ++ b)
    rw [← List.cons_append] at e2
    have m2 := C_mono2 (l := x :: r ++ b) hs hsp hab hge
    refine ⟨by omega, ?_⟩
    rcases Nat.lt_or_ge (mx p s (x :: r)) (mx p s (x :: r ++ b)) with hlt | heq
    · obtain ⟨h, h0, h1, h2⟩ := mx_at (s := s) (x :: r ++ b) hsp
      have g1 := mx_ge (p := p) (s := s) (l := x :: r) h0 h1
      have g2 := runN_len (s := s) (x :: r) h
      rw [runN_app_lt] at h2
      split at h2
      · omega
      · have hl1 : mx p s (x :: r) = (x :: r).length := by omega
        have hd1 : (x :: r).drop (mx p s (x :: r)) = [] := List.drop_of_length_le (by omega)
        rw [hd1, C_nil] at e1
        have hd2 : (x :: r ++ b).drop (mx p s (x :: r ++ b)) = b.drop (runN b h s) := by
          rw [← h2, List.drop_append, List.drop_of_length_le (by omega), List.nil_append]
          congr 1; omega
        rw [hd2] at e2
        have := C_le (l := b) hs hsp hb h0 h1
        omega
    · rw [show mx p s (x :: r ++ b) = mx p s (x :: r) by omega] at e2
      omega
end

def flips : ByteArray := ⟨#[67, 84, 82, 76, 80, 99, 116, 114, 108]⟩
theorem flips_one : ∀ k : Fin 9, (flips.extract k.1 (k.1 + 1)).data.toList.all isLetter = true ∧ (flips.extract k.1 (k.1 + 1)).size = 1 := by decide
theorem idx_lt {c : UInt8} (h : isLetter c = true) : ∃ k : Nat, k < 9 ∧ Lib.indexByte lettersL c = k := by
  unfold isLetter lettersL at h
  simp at h
  rcases h with rfl | rfl | rfl | rfl | rfl | rfl | rfl | rfl | rfl
  · exact ⟨0, by omega, by decide⟩
  · exact ⟨1, by omega, by decide⟩
  · exact ⟨2, by omega, by decide⟩
  · exact ⟨3, by omega, by decide⟩
  · exact ⟨4, by omega, by decide⟩
  · exact ⟨5, by omega, by decide⟩
  · exact ⟨6, by omega, by decide⟩
  · exact ⟨7, by omega, by decide⟩
  · exact ⟨8, by omega, by decide⟩
theorem wordE_letters {s : ByteArray} (h : wordE s = 0) : s.size ≤ 16 ∧ s.data.toList.all isLetter = true := by
  unfold wordE at h
  split at h
  · cases h
  · split at h
    · rename_i h1 h2; exact ⟨by omega, h2⟩
    · cases h
theorem wordE_of {s : ByteArray} (h1 : s.size ≤ 16) (h2 : s.data.toList.all isLetter = true) : wordE s = 0 := by
  unfold wordE
  rw [if_neg (by omega), if_pos h2]
theorem app_letters {s x : ByteArray} (h1 : s.data.toList.all isLetter = true) (h2 : x.data.toList.all isLetter = true) : (s ++ x).data.toList.all isLetter = true := by
  rw [ByteArray.data_append, Array.toList_append, List.all_append, h1, h2]; rfl


theorem sheet_ret1 {fn : Func} {p : Tmp} (h : fn.results = #[.cell p 35]) {R : Ending → World → Prop} {a : Act} {w : World} {g : Nat} {x y : Value} (hp : a.tmps.getD p undef = .pointer (some ⟨g, 0, none⟩))
    (hb : Blk w g 35 #[x, y]) (hd : a.defers = []) (hR : R (.returned (.agg #[x, y])) w) : bodyPost Try.prog fn R .ret a w := by
  refine bodyPost_ret (v := .agg #[x, y]) ?_ hd hR
  have c0 := hb.cell 0 x rfl
  have c1 := hb.cell 1 y rfl
  have hp' : a.tmps[p]?.getD undef = .pointer (some ⟨g, 0, none⟩) := by simpa using hp
  simp only [results, h]
  simp [Sem.run_bind, Result.andThen, hp']
  go_simp
theorem sheet_ret2 {fn : Func} {p u : Tmp} (h : fn.results = #[.cell p 35, .tmp u]) {R : Ending → World → Prop} {a : Act} {w : World} {g : Nat} {x y : Value} (hp : a.tmps.getD p undef = .pointer (some ⟨g, 0, none⟩))
    (hb : Blk w g 35 #[x, y]) (hd : a.defers = []) (hR : R (.returned (.tuple #[.agg #[x, y], a.tmps.getD u undef])) w) : bodyPost Try.prog fn R .ret a w := by
  refine bodyPost_ret (v := .tuple #[.agg #[x, y], a.tmps.getD u undef]) ?_ hd hR
  have c0 := hb.cell 0 x rfl
  have c1 := hb.cell 1 y rfl
  have hp' : a.tmps[p]?.getD undef = .pointer (some ⟨g, 0, none⟩) := by simpa using hp
  simp only [results, h]
  simp [Sem.run_bind, Result.andThen, hp']
  go_simp

theorem mir_snoc {p : Int} {D l : List Tri} {j : Nat} {y : Tri} (h : Mir p D (l.take j)) (hj : j < l.length) (hy : y.b = p - 2 - l[j].b) : Mir p (D ++ [y]) (l.take (j + 1)) := by
  unfold Mir at h ⊢
  rw [take_snoc l j hj, List.map_append, List.map_append, h]
  simp [hy]


theorem flat_inv {α : Type} {sz : Nat} {enc : α → List Value} (henc : ∀ x, (enc x).length = sz) : ∀ (l : List α) (j : Nat) (u : Value), (l.flatMap enc)[j]? = some u → ∃ k x i, l[k]? = some x ∧ (enc x)[i]? = some u ∧ j = k * sz + i
  | [], j, u, h => by simp at h
  | y :: l, j, u, h => by
    rw [List.flatMap_cons] at h
    rcases Nat.lt_or_ge j (enc y).length with hlt | hge
    · rw [List.getElem?_append_left hlt] at h
      exact ⟨0, y, j, rfl, h, by simp⟩
    · rw [List.getElem?_append_right hge] at h
      obtain ⟨k, x, i, h1, h2, h3⟩ := flat_inv henc l _ u h
      refine ⟨k + 1, x, i, by simpa using h1, h2, ?_⟩
      rw [henc] at h3 hge
      rw [Nat.succ_mul]; omega
theorem rdT_news {w : World} {B b o : Nat} {l : List Tri} (hl : l ≠ []) (h : RdT w B (some ⟨b, o, none⟩) l) : ∀ (j : Nat) u, (l.flatMap Tri.enc)[j]? = some u → w.cell? (Addr.add ⟨b, o, none⟩ j) = some u := by
  intro j u hu
  obtain ⟨b', o', e, _, hc⟩ := h hl
  injection e with e
  injection e with e1 e2 _
  subst e1; subst e2
  obtain ⟨k, x, i, h1, h2, rfl⟩ := flat_inv tri_len l j u hu
  have := hc k x h1 i u h2
  unfold Addr.add
  split
  · next e => rw [Nat.add_assoc, e, Nat.add_zero] at this; exact this
  · rw [Nat.add_assoc] at this; exact this
theorem rdT_news' {w : World} {B : Nat} {ax : Addr} {l : List Tri} (h : RdT w B (some ax) l) : ∀ (j : Nat) u, (l.flatMap Tri.enc)[j]? = some u → w.cell? (Addr.add ax j) = some u := by
  intro j u hu
  by_cases hl : l = []
  · subst hl; simp at hu
  · obtain ⟨b, o, e, _⟩ := h hl
    injection e with e
    subst e
    exact rdT_news hl h j u hu
theorem flat_one (l : List Tri) : ∀ u ∈ l.flatMap Tri.enc, u.oneCell' = true := fun u hu => by
  obtain ⟨x, _, hx⟩ := List.mem_flatMap.1 hu
  exact tri_one x u hx
theorem flat_len (l : List Tri) : (l.flatMap Tri.enc).length = l.length * 3 := by
  induction l with
  | nil => rfl
  | cons x r ih => rw [List.flatMap_cons, List.length_append, ih, tri_len, List.length_cons]; omega


/-- the works so many times -/
def rep (l : List Tri) : Nat → List Tri
  | 0 => []
  | j + 1 => rep l j ++ l
theorem rep_len (l : List Tri) : ∀ j, (rep l j).length = j * l.length
  | 0 => by simp [rep]
  | j + 1 => by rw [rep, List.length_append, rep_len l j, Nat.succ_mul]



end Go.Proofs.Ytfnklchhhojimaa
