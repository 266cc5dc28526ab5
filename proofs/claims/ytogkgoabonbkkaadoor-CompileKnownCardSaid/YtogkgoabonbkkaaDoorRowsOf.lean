/- Plain: the rows of the works that are not made. -/
import Derived.Test.YtogkgoabonbkkaaDoorFam
set_option linter.unusedSimpArgs false
set_option linter.unusedVariables false
namespace Go.Proofs.YtogkgoabonbkkaaDoor
open Go Go.RowKit Tor

/-- row k behind the first m works -/
def fill (l : List Tri) (m : Nat) (k : Nat) : List Nat := (List.range m).filter fun i => (l[i]?.map (·.b)) == some (k : Int) || (l[i]?.map (·.b)) == some ((k : Int) - 1)

theorem fill_zero (l : List Tri) (k : Nat) : fill l 0 k = [] := rfl
theorem fill_succ {l : List Tri} {m t : Nat} (hm : m < l.length) (ht : l[m].b = t) (k : Nat) : fill l (m + 1) k = upd2 (fill l m) t (fill l m t ++ [m]) (fill l m (t + 1) ++ [m]) k := by
  unfold fill
  rw [List.range_succ, List.filter_append]
  have e : (l[m]?.map (·.b)) = some (t : Int) := by rw [List.getElem?_eq_getElem hm]; simp [ht]
  have e2 : List.filter (fun i => (l[i]?.map (·.b)) == some (k : Int) || (l[i]?.map (·.b)) == some ((k : Int) - 1)) [m] = if k = t ∨ k = t + 1 then [m] else [] := by
    rw [List.filter_cons, List.filter_nil, e]
    by_cases h : k = t ∨ k = t + 1
    · rw [if_pos h]
      have : (some (t : Int) == some (k : Int) || some (t : Int) == some ((k : Int) - 1)) = true := by simp; omega
      rw [this]; rfl
    · rw [if_neg h]
      have : (some (t : Int) == some (k : Int) || some (t : Int) == some ((k : Int) - 1)) = false := by simp; omega
      rw [this]; rfl
  rw [e2]
  unfold upd2
  by_cases h1 : k = t
  · subst h1; simp
  · by_cases h2 : k = t + 1
    · subst h2; simp
    · rw [if_neg h1, if_neg h2, if_neg (by omega), List.append_nil]
theorem fill_len (l : List Tri) (m k : Nat) : (fill l m k).length ≤ m := by
  unfold fill
  exact Nat.le_trans (List.length_filter_le _ _) (by simp)

theorem nenc_len (x : Nat) : (nenc x).length = 1 := rfl
theorem Own.rdn {w : World} {base : Nat} {e : TypeId} {v : Value} {l : List Nat} {y : Nat} (h : Own 1 nenc w base e v (l ++ [y])) : ∃ A c, v = .slice A (l.length + 1) c := by
  obtain ⟨A, c, h1, _, _⟩ := Own.rd nenc_len h
  exact ⟨A, c, by rw [h1]; simp⟩
theorem infoInt : (Tryd.prog.info? 3).map (fun i => (i.zero, i.size, i.bytes)) = some (some (.int .i64 0), 1, 8) := by kernel_rfl



/-- does work i take place k? -/
def tk (l : List Tri) (k i : Nat) : Bool := (l[i]?.map (·.b)) == some (k : Int) || (l[i]?.map (·.b)) == some ((k : Int) - 1)

/-- the works that take a place and are not in M -/
def rowsOf (l : List Tri) (M : List Nat) (k : Nat) : List Nat := (List.range l.length).filter fun i => tk l k i && !M.contains i

theorem tk_iff {l : List Tri} {k i : Nat} (hi : i < l.length) : tk l k i = true ↔ l[i].b = k ∨ l[i].b = (k : Int) - 1 := by
  unfold tk
  rw [List.getElem?_eq_getElem hi]
  simp

theorem rowsOf_len (l : List Tri) (M : List Nat) (k : Nat) : (rowsOf l M k).length ≤ l.length := by
  unfold rowsOf
  exact Nat.le_trans (List.length_filter_le _ _) (by simp)
theorem rowsOf_mem {l : List Tri} {M : List Nat} {k x : Nat} (h : x ∈ rowsOf l M k) : x < l.length := by
  unfold rowsOf at h
  simpa using (List.mem_filter.1 h).1

theorem filter_head {p : Nat → Bool} {n i : Nat} {r : List Nat} (h : (List.range n).filter p = i :: r) : p i = true ∧ i < n ∧ (∀ j, j < i → p j = false) ∧ r = (List.range n).filter (fun x => p x && decide (x ≠ i)) := by
  have h1 : ((List.range n).filter p).head? = some i := by rw [h]; rfl
  rw [List.head?_filter, List.find?_range_eq_some] at h1
  refine ⟨h1.1, by simpa using h1.2.1, fun j hj => by simpa using h1.2.2 j hj, ?_⟩
  have hnd : ((List.range n).filter p).Nodup := List.Pairwise.filter _ List.nodup_range
  rw [h] at hnd
  have hni : i ∉ r := (List.nodup_cons.1 hnd).1
  have e : (List.range n).filter (fun x => p x && decide (x ≠ i)) = ((List.range n).filter p).filter (fun x => decide (x ≠ i)) := by
    rw [List.filter_filter]
    congr 1
    funext x
    rw [Bool.and_comm]
  rw [e, h, List.filter_cons, if_neg (by simp)]
  symm
  rw [List.filter_eq_self]
  intro x hx
  simp only [ne_eq, decide_eq_true_eq]
  intro e'; subst e'; exact hni hx
theorem filter_head_of {p : Nat → Bool} {n i : Nat} (h1 : p i = true) (h2 : i < n) (h3 : ∀ j, j < i → p j = false) : ∃ r, (List.range n).filter p = i :: r := by
  have h : ((List.range n).filter p).head? = some i := by
    rw [List.head?_filter, List.find?_range_eq_some]
    exact ⟨h1, by simpa using h2, fun j hj => by simp [h3 j hj]⟩
  cases e : (List.range n).filter p with
  | nil => rw [e] at h; cases h
  | cons x r => rw [e] at h; simp at h; exact ⟨r, by rw [h]⟩


/-- work i is ready: not made, and no earlier one that is not made touches it -/
def rdy (l : List Tri) (M : List Nat) (i : Nat) : Prop := ∃ hi : i < l.length, i ∉ M ∧ ∀ j (hj : j < i), j ∉ M → ¬ (l[j].b - l[i].b ≤ 1 ∧ l[i].b - l[j].b ≤ 1)

theorem front_rdy {l : List Tri} {M : List Nat} {a i : Nat} (h : front (rowsOf l M) a = some i) : rdy l M i ∧ ∃ hi : i < l.length, l[i].b = a := by
  obtain ⟨_, r1, r2, h1, h2⟩ := frontZ_some h
  obtain ⟨p1, hi, n1, _⟩ := filter_head h1
  obtain ⟨p2, _, n2, _⟩ := filter_head h2
  simp only [Bool.and_eq_true, Bool.not_eq_true', List.contains_eq_mem, decide_eq_false_iff_not] at p1 p2
  have e1 := (tk_iff hi).1 p1.1
  have e2 := (tk_iff hi).1 p2.1
  have hb : l[i].b = a := by omega
  refine ⟨⟨hi, p1.2, fun j hj hjM ht => ?_⟩, hi, hb⟩
  have hjl : j < l.length := by omega
  have m1 := n1 j hj
  have m2 := n2 j hj
  have nc : M.contains j = false := by simpa using hjM
  rw [nc] at m1 m2
  simp only [Bool.not_false, Bool.and_true] at m1 m2
  have m1' : ¬ (tk l a j = true) := by rw [m1]; simp
  have m2' : ¬ (tk l (a + 1) j = true) := by rw [m2]; simp
  rw [tk_iff hjl] at m1' m2'
  omega

theorem front_of_rdy {l : List Tri} {M : List Nat} {a i : Nat} (h : rdy l M i) (hb : ∀ hi : i < l.length, l[i].b = a) : front (rowsOf l M) a = some i := by
  obtain ⟨hi, hM, hn⟩ := h
  have hb := hb hi
  have nc : M.contains i = false := by simpa using hM
  have aux : ∀ k, (k = a ∨ k = a + 1) → ∃ r, rowsOf l M k = i :: r := fun k hk => by
    refine filter_head_of ?_ hi (fun j hj => ?_)
    · rw [nc, (tk_iff hi).2 (by omega)]; rfl
    · by_cases hjM : j ∈ M
      · have : M.contains j = true := by simpa using hjM
        rw [this]; simp
      · have h1 := hn j hj hjM
        have : ¬ (tk l k j = true) := by rw [tk_iff (by omega)]; omega
        simp [this]
  obtain ⟨r1, h1⟩ := aux a (Or.inl rfl)
  obtain ⟨r2, h2⟩ := aux (a + 1) (Or.inr rfl)
  unfold front
  rw [h1, h2]
  simp

theorem pop_rows {l : List Tri} {M : List Nat} {a i : Nat} (h : front (rowsOf l M) a = some i) : pop (rowsOf l M) a = rowsOf l (M ++ [i]) := by
  obtain ⟨_, hi, hb⟩ := front_rdy h
  obtain ⟨_, r1, r2, h1, h2⟩ := frontZ_some h
  have aux : ∀ (k : Nat) r, rowsOf l M k = i :: r → r = rowsOf l (M ++ [i]) k := fun k r hr => by
    obtain ⟨_, _, _, e⟩ := filter_head hr
    rw [e]
    unfold rowsOf
    congr 1
    funext x
    by_cases hx : x = i <;> simp [hx, Bool.and_assoc]
  funext k
  unfold pop
  split
  · rename_i hk
    rcases hk with rfl | rfl
    · rw [h1]; exact aux _ _ h1
    · rw [h2]; exact aux _ _ h2
  · rename_i hk
    unfold rowsOf
    refine List.filter_congr (fun x hx => ?_)
    have hx' : x < l.length := by simpa using hx
    by_cases e : x = i
    · subst e
      have : ¬ (tk l k x = true) := by rw [tk_iff hx']; omega
      simp [this]
    · simp [e]


/-- what the sweep makes, in which order -/
theorem swp_rows {l : List Tri} {h s : Nat} : ∀ (n a : Nat) (M : List Nat), (swp h s n a (rowsOf l M)).2 = rowsOf l (M ++ (swp h s n a (rowsOf l M)).1)
  | 0, a, M => by simp [swp]
  | n + 1, a, M => by
    unfold swp
    split
    · cases hf : front (rowsOf l M) a with
      | none => simp only [swp_rows n (a + 1) M]
      | some i =>
        simp only [pop_rows hf, swp_rows n (max h (a - 1)) (M ++ [i])]
        simp
    · simp


/-- all that the sweep makes is new, and each once -/
theorem swp_new {l : List Tri} {h s : Nat} : ∀ (n a : Nat) (M : List Nat), M.Nodup → (∀ x ∈ M, x < l.length) → (M ++ (swp h s n a (rowsOf l M)).1).Nodup ∧ ∀ x ∈ M ++ (swp h s n a (rowsOf l M)).1, x < l.length
  | 0, a, M, hM, hl => by simpa [swp] using ⟨hM, hl⟩
  | n + 1, a, M, hM, hl => by
    unfold swp
    split
    · cases hf : front (rowsOf l M) a with
      | none => exact swp_new n (a + 1) M hM hl
      | some i =>
        obtain ⟨⟨hi, hiM, _⟩, _⟩ := front_rdy hf
        have h1 : (M ++ [i]).Nodup := by
          rw [List.nodup_append]
          exact ⟨hM, by simp, fun x hx y hy e => by simp at hy; subst hy; subst e; exact hiM hx⟩
        have h2 : ∀ x ∈ M ++ [i], x < l.length := fun x hx => by
          rcases List.mem_append.1 hx with hx | hx
          · exact hl x hx
          · simp at hx; subst hx; exact hi
        have := swp_new (h := h) (s := s) n (max h (a - 1)) (M ++ [i]) h1 h2
        simp only [pop_rows hf]
        simpa using this
    · simpa using ⟨hM, hl⟩

theorem swp_some_ne {h s : Nat} {f : Nat → List Nat} {b i : Nat} (hf : front f b = some i) (hb : b + 1 < h + s) : ∀ (n a : Nat), a ≤ b → b - a < n → (swp h s n a f).1 ≠ []
  | 0, _, _, h => absurd h (by omega)
  | n + 1, a, h1, h2 => by
    unfold swp
    rw [if_pos (by omega)]
    cases hfa : front f a with
    | none =>
      have : a ≠ b := fun e => by subst e; rw [hf] at hfa; cases hfa
      exact swp_some_ne hf hb n (a + 1) (by omega) (by omega)
    | some j => simp

theorem bestUpto_max (f : Nat → Nat) : ∀ n k, k < n → f k ≤ f (bestUpto f n)
  | 0, _, h => absurd h (by omega)
  | n + 1, k, h => by
    unfold bestUpto
    by_cases e : k = n
    · subst e
      split
      · exact Nat.le_refl _
      · omega
    · have := bestUpto_max f n k (by omega)
      split <;> omega
theorem bestUpto_lt (f : Nat → Nat) : ∀ n, 0 < n → bestUpto f n < n
  | 0, h => absurd h (by omega)
  | n + 1, _ => by
    unfold bestUpto
    split
    · omega
    · by_cases h : n = 0
      · subst h; simp [bestUpto]
      · have := bestUpto_lt f n (by omega); omega

theorem len_of_all : ∀ (n : Nat) (M : List Nat), (∀ i, i < n → i ∈ M) → n ≤ M.length
  | 0, _, _ => Nat.zero_le _
  | n + 1, M, h => by
    have hm := h n (by omega)
    have := len_of_all n (M.erase n) (fun i hi => (List.mem_erase_of_ne (by omega)).2 (h i (by omega)))
    rw [List.length_erase_of_mem hm] at this
    have := List.length_pos_of_mem hm
    omega
theorem len_of_nodup : ∀ (n : Nat) (M : List Nat), M.Nodup → (∀ x ∈ M, x < n) → M.length ≤ n
  | 0, M, _, h => by
    cases M with
    | nil => simp
    | cons x r => exact absurd (h x (by simp)) (by omega)
  | n + 1, M, hn, h => by
    have := len_of_nodup n (M.erase n) (hn.erase n) (fun x hx => by
      have h1 := h x (List.mem_of_mem_erase hx)
      have h2 : x ≠ n := fun e => by subst e; exact (List.Nodup.not_mem_erase hn) hx
      omega)
    rw [List.length_erase] at this
    split at this <;> omega
theorem exists_not_mem {n : Nat} {M : List Nat} (h : M.length < n) : ∃ i, i < n ∧ i ∉ M ∧ ∀ j, j < i → j ∈ M := by
  have h1 : ∃ i, i < n ∧ i ∉ M := by
    refine Classical.byContradiction fun hc => ?_
    have hs : ∀ i, i < n → i ∈ M := fun i hi => Classical.byContradiction fun hm => hc ⟨i, hi, hm⟩
    have := len_of_all n M hs
    omega
  obtain ⟨i, hi, hm⟩ := h1
  induction i using Nat.strongRecOn with
  | _ i ih =>
    by_cases hall : ∀ j, j < i → j ∈ M
    · exact ⟨i, hi, hm, hall⟩
    · simp only [Classical.not_forall] at hall
      obtain ⟨j, hj, hjm⟩ := hall
      exact ih j hj (by omega) hjm


/-- a place from which something can be made -/
theorem much_pos {l : List Tri} {M : List Nat} {p s N : Nat} (hM : M.length < l.length) (hb : ∀ (k : Nat) (hk : k < l.length), 0 ≤ l[k].b ∧ l[k].b ≤ (p : Int) - 2) (h2 : 2 ≤ s) (hsp : s ≤ p) (hN : s ≤ N) :
    0 < offN s N (rowsOf l M) (bestUpto (offN s N (rowsOf l M)) (p - s + 1)) := by
  obtain ⟨i, hi, hiM, hall⟩ := exists_not_mem hM
  obtain ⟨b, hb'⟩ : ∃ b : Nat, l[i].b = b := ⟨l[i].b.toNat, by have := hb i hi; omega⟩
  have hbd := hb i hi
  have hr : rdy l M i := ⟨hi, hiM, fun j hj hjM => absurd (hall j hj) hjM⟩
  have hf := front_of_rdy (a := b) hr (fun _ => hb')
  have h1 := bestUpto_max (offN s N (rowsOf l M)) (p - s + 1) (min b (p - s)) (by omega)
  have h3 : 0 < offN s N (rowsOf l M) (min b (p - s)) := by
    unfold offN
    exact List.length_pos_iff.2 (swp_some_ne hf (by omega) N _ (by omega) (by omega))
  omega

theorem sum_filter_le {p : Nat → Nat → Bool} (hp : ∀ i m, sumTo (fun k => if p k i then [0] else []) m ≤ 2) (R : List Nat) (m : Nat) : sumTo (fun k => R.filter (p k)) m ≤ 2 * R.length := by
  induction R with
  | nil => simp only [List.filter_nil, List.length_nil]; clear hp; induction m with
    | zero => simp [sumTo]
    | succ m ih => simp only [sumTo]; simpa using ih
  | cons x R ih =>
    have e : sumTo (fun k => (x :: R).filter (p k)) m = sumTo (fun k => R.filter (p k)) m + sumTo (fun k => if p k x then [0] else []) m := by
      clear ih hp
      induction m with
      | zero => simp [sumTo]
      | succ m ih =>
        show sumTo (fun k => (x :: R).filter (p k)) m + ((x :: R).filter (p m)).length = sumTo (fun k => R.filter (p k)) m + (R.filter (p m)).length + (sumTo (fun k => if p k x then [0] else []) m + (if p m x then [0] else []).length)
        rw [ih, List.filter_cons]
        split <;> simp <;> omega
    have := hp x m
    rw [e, List.length_cons]
    omega

theorem sumTo_rowsOf (l : List Tri) (M : List Nat) (m : Nat) : sumTo (rowsOf l M) m ≤ 2 * l.length := by
  have h := sum_filter_le (p := fun k i => tk l k i && !M.contains i) (fun i m => ?_) (List.range l.length) m
  · rw [List.length_range] at h; exact h
  · have aux : ∀ m, sumTo (fun k => if (tk l k i && !M.contains i) = true then [0] else []) m ≤ (if ∃ x, l[i]?.map (·.b) = some x ∧ x < m then 1 else 0) + (if ∃ x, l[i]?.map (·.b) = some x ∧ x + 1 < m then 1 else 0) := fun m => by
      induction m with
      | zero => simp [sumTo]
      | succ m ih =>
        simp only [sumTo]
        cases hl : l[i]?.map (·.b) with
        | none =>
          have : tk l m i = false := by unfold tk; rw [hl]; rfl
          simp only [hl, this] at ih ⊢
          simpa using ih
        | some x =>
          simp only [hl, Option.some.injEq, exists_eq_left'] at ih ⊢
          have ht : tk l m i = true → x = m ∨ x = (m : Int) - 1 := fun h => by unfold tk at h; rw [hl] at h; simpa using h
          by_cases h0 : (tk l m i && !M.contains i) = true
          · rw [if_pos h0]
            have := ht (by simp only [Bool.and_eq_true] at h0; exact h0.1)
            simp only [List.length_singleton]
            rcases this with rfl | rfl
            · rw [if_neg (by omega), if_neg (by omega)] at ih
              rw [if_pos (by omega)]
              split <;> omega
            · rw [if_pos (by omega), if_neg (by omega)] at ih
              rw [if_pos (by omega), if_pos (by omega)]
              omega
          · rw [if_neg h0]
            simp only [List.length_nil, Nat.add_zero]
            refine Nat.le_trans ih ?_
            split <;> split <;> split <;> split <;> omega
    refine Nat.le_trans (aux m) ?_
    split <;> split <;> omega

theorem off_le {l : List Tri} {M : List Nat} {s N h : Nat} (hn : M.Nodup) (hl : ∀ x ∈ M, x < l.length) : M.length + offN s N (rowsOf l M) h ≤ l.length := by
  obtain ⟨h1, h2⟩ := swp_new (h := h) (s := s) N h M hn hl
  have := len_of_nodup _ _ h1 h2
  rw [List.length_append] at this
  exact this
theorem fill_all (l : List Tri) : fill l l.length = rowsOf l [] := by
  funext k
  unfold fill rowsOf tk
  simp

theorem fam_end {w : World} {base : Nat} {cs : Array Value} {l : List Tri} {m t : Nat} {v1 v2 : Value} (hcs : cs.size = 24) (ht : t + 1 < 24) (hm : m < l.length) (hb : l[m].b = t)
    (h : Fam2 w base (fun k => cs.getD k undef) (fill l m) t v1 (fill l m t ++ [m]) v2 (fill l m (t + 1) ++ [m])) :
    FamV w base (fun k => ((cs.setIfInBounds t v1).setIfInBounds (t + 1) v2).getD k undef) (fill l (m + 1)) := by
  refine FamV.congr h (fun k hk => ?_) (fun k hk => fill_succ hm hb k)
  unfold upd2
  by_cases e1 : k = t
  · subst e1
    simp [Array.getD, hcs, show k < 24 by omega]
  · by_cases e2 : k = t + 1
    · subst e2
      simp [Array.getD, hcs, ht]
    · rw [if_neg e1, if_neg e2]
      have h1 : ¬ t = k := fun e => e1 e.symm
      have h2 : ¬ t + 1 = k := fun e => e2 e.symm
      simp [Array.getD, hcs, hk, Array.getElem_setIfInBounds, h1, h2]

theorem fam_rows {w : World} {base R : Nat} {cs : Array Value} {ty : TypeId} {f : Nat → List Nat} (hcs : cs.size = 24) (hR : R < base) (hb : Blk w R ty cs) (h : FamV w base (fun k => cs.getD k undef) f) : RowsAt w R w.heap.size f := fun k hk => by
  have ho := h.1 k hk
  obtain ⟨A, c, hv, hc, hd⟩ := Own.rd nenc_len ho
  have e : cs[k]? = some (.slice A (f k).length c) := by
    rw [← hv]
    simp [Array.getD, hcs, hk]
  refine ⟨A, c, hb.cell k _ e, hc, hb.frozen k, hd, fun hne g o z hA => ?_⟩
  obtain ⟨b, o', e', _, _⟩ := hd hne
  rw [e'] at hA
  simp only [Option.some.injEq, Addr.mk.injEq] at hA
  have h1 := (World.ownsRow.lt ho b (by rw [hv, e']; rfl)).1
  omega


/-- the quick instructions -/
def qloop (l : List Tri) (p s N : Nat) : Nat → List Nat → List Tri
  | 0, _ => []
  | n + 1, M => if M.length < l.length then
      ⟨1, bestUpto (offN s N (rowsOf l M)) (p - s + 1), .empty⟩ :: ((swp (bestUpto (offN s N (rowsOf l M)) (p - s + 1)) s N (bestUpto (offN s N (rowsOf l M)) (p - s + 1)) (rowsOf l M)).1.map (stepAt l) ++ qloop l p s N n (M ++ (swp (bestUpto (offN s N (rowsOf l M)) (p - s + 1)) s N (bestUpto (offN s N (rowsOf l M)) (p - s + 1)) (rowsOf l M)).1))
    else []

theorem qloop_step {l : List Tri} {P S N gk h : Nat} {M : List Nat} (hlt : M.length < l.length) (hh : bestUpto (offN S N (rowsOf l M)) (P - S + 1) = h) (hg : 0 < gk) :
    qloop l P S N gk M = ⟨1, h, .empty⟩ :: ((swp h S N h (rowsOf l M)).1.map (stepAt l) ++ qloop l P S N (gk - 1) (M ++ (swp h S N h (rowsOf l M)).1)) := by
  obtain ⟨g, rfl⟩ : ∃ g, gk = g + 1 := ⟨gk - 1, by omega⟩
  subst hh
  rw [qloop, if_pos hlt]
  rfl
theorem qloop_end {l : List Tri} {P S N gk : Nat} {M : List Nat} (hlt : ¬ M.length < l.length) : qloop l P S N gk M = [] := by
  cases gk with
  | zero => rfl
  | succ g => rw [qloop, if_neg hlt]

theorem Own.rdn_far {w : World} {base : Nat} {e : TypeId} {v : Value} {l : List Nat} (h : Own 1 nenc w base e v l) :
    ∃ A c, v = .slice A l.length c ∧ ∀ w', (∀ k, base ≤ k → k < w.heap.size → w'.heap[k]? = w.heap[k]?) → RdN w' w.heap.size A l := by
  obtain ⟨A, c, hv, _, hd⟩ := Own.rd nenc_len h
  refine ⟨A, c, hv, fun w' hw => fun hl => ?_⟩
  obtain ⟨b, o, e', hb, hc⟩ := hd hl
  have h1 := (World.ownsRow.lt h b (by rw [hv, e']; rfl)).1
  exact ⟨b, o, e', hb, fun k x hx j u hu => (World.cell?_of_block (w := w) (hw b h1 hb)).trans (hc k x hx j u hu)⟩
theorem Blk.same {w w' : World} {g : Nat} {t : TypeId} {cs : Array Value} {S : Nat → Prop} (h : Blk w g t cs) (hs : Same S w w') (hg : S g) : Blk w' g t cs := (hs.block g hg).trans h
theorem Same.below_mono {B : Nat} {S : Nat → Prop} {w w' : World} (h : Below B w w') (hS : ∀ k, S k → k < B) : Same S w w' := (Same.of_below h).mono hS
theorem outInv_start (w : World) : OutInv (w.heap.size + 1) w.heap.size (w.heap.size + 1) [] 0 ((w.alloc (.cells #[.slice none 0 0] 22)).alloc (.cells #[.int .i64 0] 3)) := by
  refine ⟨.slice none 0 0, (Blk.new w _ _).alloc _, Own.nil _ _ _, ?_⟩
  have := Blk.new (w.alloc (.cells #[.slice none 0 0] 22)) 3 #[.int .i64 0]
  rw [World.size_alloc] at this
  exact this
theorem OutInv.next {base ob mb k : Nat} {done : List Tri} {w : World} {k' : Int} (h : OutInv base ob mb done k w) (hk : k' = k) : OutInv base ob w.heap.size done k (w.alloc (.cells #[.int .i64 k'] 3)) := by
  obtain ⟨v, h1, h2, h3⟩ := h
  subst hk
  exact ⟨v, h1.alloc _, h2.alloc _, Blk.new w _ _⟩
theorem OutInv.put {base ob mb k : Nat} {done : List Tri} {w : World} {v' : Value} {v : Value} (ho : Blk w ob 22 #[v]) (hm : Blk w mb 3 #[.int .i64 k]) (hown : Own 3 Tri.enc w base 33 v' done) (hb : ob < base) (hne : ob ≠ mb) :
    OutInv base ob mb done k (w.setCell ⟨ob, 0, none⟩ v') :=
  ⟨v', ho.set_ 0 v', Own.far hown hb _, hm.far (p := ⟨ob, 0, none⟩) (fun e => hne e.symm) _⟩

end Go.Proofs.YtogkgoabonbkkaaDoor
