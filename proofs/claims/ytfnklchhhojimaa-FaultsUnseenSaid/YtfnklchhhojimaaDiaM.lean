/- Plain: levels of works, rows of a diagram. -/
import Derived.Test.YtfnklchhhojimaaOldA4
import Derived.Test.YtfnklchhhojimaaOldA1
set_option linter.unusedSimpArgs false
set_option linter.unusedVariables false
namespace Go.Proofs.Ytfnklchhhojimaa
open Go Go.RowKit Tor

/-- the greatest of some numbers, or 0 -/
def supL (l : List Nat) : Nat := l.foldl max 0
theorem foldl_max (l : List Nat) : ∀ a, l.foldl max a = max a (supL l) := by
  unfold supL
  induction l with
  | nil => intro a; simp
  | cons x r ih => intro a; simp only [List.foldl_cons]; rw [ih (max a x), ih (max 0 x)]; omega
theorem supL_nil : supL [] = 0 := rfl
theorem supL_cons (x : Nat) (r : List Nat) : supL (x :: r) = max x (supL r) := by
  show (r.foldl max (max 0 x)) = _
  rw [foldl_max]; omega
theorem supL_append (a b : List Nat) : supL (a ++ b) = max (supL a) (supL b) := by
  induction a with
  | nil => simp [supL_nil]
  | cons x r ih => rw [List.cons_append, supL_cons, supL_cons, ih]; omega
theorem supL_snoc (a : List Nat) (x : Nat) : supL (a ++ [x]) = max (supL a) x := by rw [supL_append, supL_cons, supL_nil]; omega
theorem supL_le {l : List Nat} {b : Nat} : supL l ≤ b ↔ ∀ x ∈ l, x ≤ b := by
  induction l with
  | nil => simp [supL_nil]
  | cons x r ih => rw [supL_cons]; simp only [List.mem_cons, forall_eq_or_imp, ← ih]; omega
theorem le_supL {l : List Nat} {x : Nat} (h : x ∈ l) : x ≤ supL l := supL_le.1 (Nat.le_refl _) x h
theorem supL_mem : ∀ (l : List Nat), 0 < supL l → supL l ∈ l
  | [], h => absurd h (by simp [supL_nil])
  | x :: r, h => by
    rw [supL_cons] at h ⊢
    rcases Nat.lt_or_ge x (supL r) with hx | hx
    · rw [Nat.max_eq_right (Nat.le_of_lt hx)]
      exact List.mem_cons_of_mem _ (supL_mem r (by omega))
    · rw [Nat.max_eq_left hx]; exact List.mem_cons_self
theorem supL_max (f g : Nat → Nat) (l : List Nat) : supL (l.map fun k => max (f k) (g k)) = max (supL (l.map f)) (supL (l.map g)) := by
  induction l with
  | nil => simp [supL_nil]
  | cons x r ih => simp only [List.map_cons, supL_cons, ih]; omega

/-- the level of a work behind works with levels L -/
def levAt (l : List Tri) (L : List Nat) (m : Nat) : Nat := supL ((List.range m).map fun k => if touchB (xAt l k).b (xAt l m).b = true then L.getD k 0 + 1 else 0)

/-- the levels of the first works -/
def levL (l : List Tri) : Nat → List Nat
  | 0 => []
  | m + 1 => levL l m ++ [levAt l (levL l m) m]
theorem levL_len (l : List Tri) : ∀ m, (levL l m).length = m
  | 0 => rfl
  | m + 1 => by rw [levL, List.length_append, levL_len l m]; rfl
theorem levL_get (l : List Tri) : ∀ (m k : Nat), k < m → (levL l m).getD k 0 = levAt l (levL l k) k
  | 0, k, h => absurd h (by omega)
  | m + 1, k, h => by
    have hl := levL_len l m
    rw [levL, List.getD_eq_getElem?_getD]
    by_cases hk : k < m
    · rw [List.getElem?_append_left (by omega), ← List.getD_eq_getElem?_getD]
      exact levL_get l m k hk
    · obtain rfl : k = m := by omega
      rw [List.getElem?_append_right (by omega), hl]
      simp
theorem levL_take (l : List Tri) : ∀ (m k : Nat), k ≤ m → (levL l m).take k = levL l k
  | 0, k, h => by obtain rfl : k = 0 := by omega
                  rfl
  | m + 1, k, h => by
    by_cases hk : k ≤ m
    · rw [levL, List.take_append_of_le_length (by rw [levL_len]; exact hk), levL_take l m k hk]
    · obtain rfl : k = m + 1 := by omega
      rw [List.take_of_length_le (by rw [levL_len]; omega)]

/-- how deep the line is at a place behind the first works -/
def depAt (l : List Tri) (L : List Nat) (m q : Nat) : Nat := supL ((List.range m).map fun k => if (xAt l k).b = (q : Int) ∨ (xAt l k).b + 1 = (q : Int) then L.getD k 0 + 1 else 0)
theorem depAt_zero (l : List Tri) (L : List Nat) (q : Nat) : depAt l L 0 q = 0 := rfl
theorem lev_dep (l : List Tri) (L : List Nat) (m t : Nat) (ht : (xAt l m).b = (t : Int)) : levAt l L m = max (depAt l L m t) (depAt l L m (t + 1)) := by
  unfold levAt depAt
  rw [← supL_max]
  congr 1
  apply List.map_congr_left
  intro k _
  unfold touchB
  rw [ht]
  by_cases h : (xAt l k).b - (t : Int) ≤ 1 ∧ (t : Int) - (xAt l k).b ≤ 1
  · rw [if_pos (by simp [h])]
    rcases (show (xAt l k).b = (t : Int) ∨ (xAt l k).b + 1 = (t : Int) ∨ (xAt l k).b = (t : Int) + 1 by omega) with e | e | e
    · rw [if_pos (.inl e)]; split <;> omega
    · rw [if_pos (.inr e)]; split <;> omega
    · rw [if_pos (show (xAt l k).b = ((t + 1 : Nat) : Int) ∨ (xAt l k).b + 1 = ((t + 1 : Nat) : Int) from .inl (by omega))]; split <;> omega
  · rw [if_neg (by simp; omega), if_neg (by omega), if_neg (by omega)]; rfl
theorem range_map_getD {L : List Nat} {m n : Nat} (hm : L.length = m) (p : Nat → Prop) [DecidablePred p] : ((List.range m).map fun k => if p k then (L ++ [n]).getD k 0 + 1 else 0) = (List.range m).map fun k => if p k then L.getD k 0 + 1 else 0 := by
  apply List.map_congr_left
  intro k hk
  have : k < L.length := by rw [hm]; exact List.mem_range.1 hk
  rw [List.getD_eq_getElem?_getD, List.getD_eq_getElem?_getD, List.getElem?_append_left this]
theorem depAt_step (l : List Tri) (L : List Nat) (m q n : Nat) (hm : L.length = m) : depAt l (L ++ [n]) (m + 1) q = max (depAt l L m q) (if (xAt l m).b = (q : Int) ∨ (xAt l m).b + 1 = (q : Int) then n + 1 else 0) := by
  unfold depAt
  rw [List.range_succ, List.map_append, supL_append, range_map_getD hm]
  congr 1
  simp only [List.map_cons, List.map_nil, supL_cons, supL_nil]
  have : (L ++ [n]).getD m 0 = n := by rw [← hm]; simp [List.getD_eq_getElem?_getD]
  rw [this]; omega

/-- how many rows there are -/
def rowsN (L : List Nat) : Nat := supL (L.map (· + 1))
theorem rowsN_snoc (L : List Nat) (n : Nat) : rowsN (L ++ [n]) = max (rowsN L) (n + 1) := by unfold rowsN; rw [List.map_append]; exact supL_snoc _ _
theorem lev_le_rows (l : List Tri) (L : List Nat) (m : Nat) (hm : L.length = m) : levAt l L m ≤ rowsN L := by
  unfold levAt rowsN
  refine supL_le.2 fun x hx => ?_
  obtain ⟨k, hk, rfl⟩ := List.mem_map.1 hx
  split
  · have hk' : k < L.length := by rw [hm]; exact List.mem_range.1 hk
    refine le_supL (List.mem_map.2 ⟨L[k], List.getElem_mem hk', ?_⟩)
    rw [List.getD_eq_getElem?_getD, List.getElem?_eq_getElem hk']; rfl
  · exact Nat.zero_le _
theorem dep_le_rows (l : List Tri) (L : List Nat) (m q : Nat) (hm : L.length = m) : depAt l L m q ≤ rowsN L := by
  unfold depAt rowsN
  refine supL_le.2 fun x hx => ?_
  obtain ⟨k, hk, rfl⟩ := List.mem_map.1 hx
  split
  · have hk' : k < L.length := by rw [hm]; exact List.mem_range.1 hk
    refine le_supL (List.mem_map.2 ⟨L[k], List.getElem_mem hk', ?_⟩)
    rw [List.getD_eq_getElem?_getD, List.getElem?_eq_getElem hk']; rfl
  · exact Nat.zero_le _

/-- row n, as it is filled -/
def rowF (L : List Nat) (n : Nat) : List Nat := (List.range L.length).filter fun i => L.getD i 0 == n
theorem rowF_snoc (L : List Nat) (n k : Nat) : rowF (L ++ [n]) k = if k = n then rowF L k ++ [L.length] else rowF L k := by
  unfold rowF
  rw [List.length_append, List.length_cons, List.length_nil, Nat.zero_add, List.range_succ, List.filter_append]
  have e1 : (List.range L.length).filter (fun i => (L ++ [n]).getD i 0 == k) = (List.range L.length).filter (fun i => L.getD i 0 == k) := by
    apply List.filter_congr
    intro i hi
    have : i < L.length := List.mem_range.1 hi
    rw [List.getD_eq_getElem?_getD, List.getD_eq_getElem?_getD, List.getElem?_append_left this]
  have e2 : (L ++ [n]).getD L.length 0 = n := by simp [List.getD_eq_getElem?_getD]
  rw [e1]
  by_cases h : k = n
  · rw [if_pos h, h]; simp [e2]
  · rw [if_neg h]
    have : (n == k) = false := beq_eq_false_iff_ne.2 (fun e => h e.symm)
    simp [e2, this]

/-- row n, in the order of the places -/
def rowS (P : Nat) (l : List Tri) (L : List Nat) (n : Nat) : List Nat := (List.range P).flatMap fun (t : Nat) => (List.range L.length).filter fun i => L.getD i 0 == n && decide ((xAt l i).b = (t : Int))

/-- two works that touch are in different rows -/
theorem lev_lt (l : List Tri) {m k i : Nat} (hki : k < i) (hi : i < m) (ht : touchB (xAt l k).b (xAt l i).b = true) : (levL l m).getD k 0 < (levL l m).getD i 0 := by
  rw [levL_get l m i hi]
  unfold levAt
  refine Nat.lt_of_succ_le (Nat.le_trans ?_ (le_supL (List.mem_map.2 ⟨k, List.mem_range.2 hki, rfl⟩)))
  rw [if_pos ht, levL_get l i k hki, levL_get l m k (by omega)]
  exact Nat.le_refl _
theorem rowS_mem {P : Nat} {l : List Tri} {L : List Nat} {n i : Nat} : i ∈ rowS P l L n ↔ i < L.length ∧ L.getD i 0 = n ∧ ∃ t : Nat, t < P ∧ (xAt l i).b = (t : Int) := by
  unfold rowS
  simp only [List.mem_flatMap, List.mem_range, List.mem_filter, Bool.and_eq_true, beq_iff_eq, decide_eq_true_eq]
  constructor
  · rintro ⟨t, h1, h2, h3, h4⟩; exact ⟨h2, h3, t, h1, h4⟩
  · rintro ⟨h2, h3, t, h1, h4⟩; exact ⟨t, h1, h2, h3, h4⟩

/-- in a row of levels the places differ by two at least -/
theorem row_apart (l : List Tri) {m i k : Nat} (hi : i < m) (hk : k < m) (h : (levL l m).getD i 0 = (levL l m).getD k 0) (hne : i ≠ k) : (xAt l i).b + 2 ≤ (xAt l k).b ∨ (xAt l k).b + 2 ≤ (xAt l i).b := by
  refine Classical.byContradiction fun hn => ?_
  have ht : touchB (xAt l i).b (xAt l k).b = true ∧ touchB (xAt l k).b (xAt l i).b = true := by
    unfold touchB
    simp only [Bool.and_eq_true, decide_eq_true_eq]
    omega
  rcases Nat.lt_or_gt_of_ne hne with e | e
  · have := lev_lt l e hk ht.1; omega
  · have := lev_lt l e hi ht.2; omega
theorem flatMap_pairwise {α : Type} {R : α → α → Prop} (f : Nat → List α) (n : Nat) (h1 : ∀ t, t < n → (f t).Pairwise R) (h2 : ∀ s t, s < t → t < n → ∀ a ∈ f s, ∀ b ∈ f t, R a b) : ((List.range n).flatMap f).Pairwise R := by
  induction n with
  | zero => simp
  | succ n ih =>
    rw [List.range_succ, List.flatMap_append, List.pairwise_append]
    refine ⟨ih (fun t ht => h1 t (by omega)) (fun s t hs ht => h2 s t hs (by omega)), by simpa using h1 n (by omega), fun a ha b hb => ?_⟩
    obtain ⟨s, hs, ha⟩ := List.mem_flatMap.1 ha
    have hb' : b ∈ f n := by simpa using hb
    exact h2 s n (List.mem_range.1 hs) (by omega) a ha b hb'
theorem rowS_sorted (P : Nat) (l : List Tri) (m n : Nat) : (rowS P l (levL l m) n).Pairwise fun i k => (xAt l i).b < (xAt l k).b := by
  unfold rowS
  have hl := levL_len l m
  refine flatMap_pairwise _ _ (fun t _ => ?_) (fun s t hs _ a ha b hb => ?_)
  · refine List.Pairwise.imp_of_mem (R := (· ≠ ·)) (fun {a b} ha hb hab => ?_) (List.Pairwise.filter _ (List.nodup_range))
    simp only [List.mem_filter, List.mem_range, Bool.and_eq_true, beq_iff_eq, decide_eq_true_eq, hl] at ha hb
    have := row_apart l ha.1 hb.1 (ha.2.1.trans hb.2.1.symm) hab
    omega
  · simp only [List.mem_filter, List.mem_range, Bool.and_eq_true, beq_iff_eq, decide_eq_true_eq] at ha hb
    omega
theorem rowS_nodup (P : Nat) (l : List Tri) (m n : Nat) : (rowS P l (levL l m) n).Nodup := (rowS_sorted P l m n).imp (fun {a b} h e => by rw [e] at h; omega)
theorem rowF_nodup (L : List Nat) (n : Nat) : (rowF L n).Nodup := List.Pairwise.filter _ List.nodup_range

/-- a row that is sorted by its places is the reference's -/
theorem row_sorted {P : Nat} {l : List Tri} {m n : Nat} {d : List Nat} (hb : ∀ i, i < m → ∃ t : Nat, t < P ∧ (xAt l i).b = (t : Int)) (hp : d.Perm (rowF (levL l m) n)) (hs : d.Pairwise fun i k => (xAt l i).b ≤ (xAt l k).b) : d = rowS P l (levL l m) n := by
  have hl := levL_len l m
  have hmem : ∀ i, i ∈ d ↔ i ∈ rowS P l (levL l m) n := fun i => by
    rw [hp.mem_iff, rowS_mem]
    unfold rowF
    simp only [List.mem_filter, List.mem_range, beq_iff_eq, hl]
    constructor
    · rintro ⟨h1, h2⟩; exact ⟨h1, h2, hb i h1⟩
    · rintro ⟨h1, h2, _⟩; exact ⟨h1, h2⟩
  have hnd : d.Nodup := hp.nodup_iff.2 (rowF_nodup _ _)
  refine List.Perm.eq_of_pairwise (le := fun i k => (xAt l i).b ≤ (xAt l k).b) (fun a b ha hb' h1 h2 => ?_) hs ((rowS_sorted P l m n).imp (fun {a b} h => by omega)) ((List.perm_ext_iff_of_nodup hnd (rowS_nodup P l m n)).2 hmem)
  refine Classical.byContradiction fun hne => ?_
  have ha' := rowS_mem.1 ((hmem a).1 ha)
  have hb'' := rowS_mem.1 hb'
  rw [hl] at ha' hb''
  have := row_apart l ha'.1 hb''.1 (ha'.2.1.trans hb''.2.1.symm) hne
  omega
end Go.Proofs.Ytfnklchhhojimaa
