/- Plain: what the functions of package words compute: lemmas for the walks of lists. -/
import Derived.Test.YtohcmfobnkaaiaaGreatDoorWdM
set_option linter.unusedSimpArgs false
set_option linter.unusedVariables false
namespace Go.Proofs.YtohcmfobnkaaiaaGreatDoor
open Go

theorem tw_range (p : Nat → Bool) {n k : Nat} (hk : k ≤ n) (hp : ∀ i, i < k → p i = true) (he : k = n ∨ p k = false) : (List.range n).takeWhile p = List.range k := by
  obtain ⟨m, rfl⟩ := Nat.exists_eq_add_of_le hk
  rw [List.range_add, List.takeWhile_append_of_pos (by intro a ha; exact hp a (List.mem_range.1 ha))]
  cases m with
  | zero => simp
  | succ m =>
    have h : p k = false := by
      rcases he with h | h
      · omega
      · exact h
    rw [List.range_succ_eq_map]
    simp [h]
theorem dd_1 {u : Nat} (h : u < 10) : (Lib.decDigits u).length = 1 := by rw [Lib.decDigits_length, Lib.nDigits_small h]
theorem itoa_len {a : Int} (h0 : 0 ≤ a) (h1 : a ≤ 9999) : ((Lib.itoa a).length : Int) = sizeW a := by
  unfold Lib.itoa
  rw [if_neg (by omega), Lib.decDigits_length]
  unfold sizeW
  by_cases h10 : a < 10
  · rw [Lib.nDigits_small (by omega), if_neg (by omega), if_neg (by omega), if_neg (by omega)]; rfl
  by_cases h100 : a < 100
  · rw [Lib.nDigits_unique 1 _ (by omega) (by omega), if_pos (by omega), if_neg (by omega), if_neg (by omega)]; rfl
  by_cases h1000 : a < 1000
  · rw [Lib.nDigits_unique 2 _ (by omega) (by omega), if_pos (by omega), if_pos (by omega), if_neg (by omega)]; rfl
  · rw [Lib.nDigits_unique 3 _ (by omega) (by omega), if_pos (by omega), if_pos (by omega), if_pos (by omega)]; rfl
theorem sizeW_bd (n : Int) : 1 ≤ sizeW n ∧ sizeW n ≤ 4 := by
  unfold sizeW
  (repeat' split) <;> omega
theorem sizeW_small {n : Int} (h : n ≤ 9999) : sizeW n ≤ 4 := (sizeW_bd n).2
def OkL (l : List Int) : Prop := ∀ x ∈ l, 0 ≤ x ∧ x ≤ 9999
theorem OkL.drop {l : List Int} (h : OkL l) (k : Nat) : OkL (l.drop k) := fun x hx => h x (List.mem_of_mem_drop hx)
theorem OkL.getD {l : List Int} (h : OkL l) (k : Nat) : 0 ≤ l.getD k 0 ∧ l.getD k 0 ≤ 9999 := by
  by_cases hk : k < l.length
  · rw [List.getD_eq_getElem?_getD, List.getElem?_eq_getElem hk]; exact h _ (List.getElem_mem hk)
  · rw [List.getD_eq_getElem?_getD, List.getElem?_eq_none (by omega)]; simp
theorem OkL.headD {l : List Int} (h : OkL l) : 0 ≤ l.headD 0 ∧ l.headD 0 ≤ 9999 := by
  cases l with
  | nil => simp
  | cons a r => exact h a (by simp)
/-- what an item is -/
structure ItOk (l : List Int) (x : It) : Prop where
  one : 1 ≤ x.2
  le : x.2 ≤ l.length
  len : x.1.length ≤ 9
  pos : 1 ≤ x.1.length
theorem digL_4 {a : Int} (h0 : 0 ≤ a) (h1 : a ≤ 9999) : 1 ≤ (digL a).length ∧ (digL a).length ≤ 4 := by
  rw [digL_eq h0 (by omega)]
  have h2 := itoa_len h0 h1
  have h3 := sizeW_bd a
  omega
theorem items_ok {l : List Int} (h : OkL l) (hl : 1 ≤ l.length) (hn : l.length ≤ 9999) {x : It} (hx : x ∈ itemsW l) : ItOk l x := by
  have h1 := digL_4 h.headD.1 h.headD.2
  unfold itemsW at hx
  simp only [List.mem_cons, List.mem_append, List.mem_map] at hx
  rcases hx with rfl | ⟨j, hj, rfl⟩ | ⟨j, hj, rfl⟩
  · exact ⟨Nat.le_refl _, hl, by simp only; omega, by simp only; omega⟩
  · have hj' : j < l.length - 1 := List.mem_range.1 ((List.takeWhile_sublist _).mem hj)
    have h2 := digL_4 (h.getD (j + 1)).1 (h.getD (j + 1)).2
    exact ⟨by simp only; omega, by simp only; omega, by simp only [List.length_append, List.length_cons]; omega, by simp only [List.length_append, List.length_cons]; omega⟩
  · have hj' : j < l.length - 1 := List.mem_range.1 ((List.takeWhile_sublist _).mem hj)
    have h2 := digL_4 (a := ((j + 2 : Nat) : Int)) (by omega) (by omega)
    exact ⟨by simp only; omega, by simp only; omega, by simp only [List.length_append, List.length_cons]; omega, by simp only [List.length_append, List.length_cons]; omega⟩
theorem costs_len (l : List Int) : (costs l).length = l.length + 1 := by
  induction l with
  | nil => rfl
  | cons a r ih => simp [costs, ih]
theorem costs_drop : ∀ (l : List Int) (k : Nat), k ≤ l.length → (costs l).drop k = costs (l.drop k)
  | l, 0, _ => rfl
  | [], k + 1, h => by simp at h
  | a :: r, k + 1, h => by
    show (costs r).drop k = costs (r.drop k)
    exact costs_drop r k (by simpa using h)
theorem costs_at (l : List Int) {k : Nat} (h : k ≤ l.length) (j : Nat) : (costs l).getD (k + j) 0 = (costs (l.drop k)).getD j 0 := by
  rw [← costs_drop l k h]
  simp [List.getD_eq_getElem?_getD, List.getElem?_drop]
theorem fold_min (c : List Int) (hc : ∀ k, 0 ≤ c.getD k 0) : ∀ (L : List It) (m : Int), 0 ≤ m → 0 ≤ L.foldl (stepC c) m ∧ L.foldl (stepC c) m ≤ m
  | [], m, h => ⟨h, Int.le_refl _⟩
  | x :: r, m, h => by
    have h1 := hc (x.2 - 1)
    have h2 := fold_min c hc r (stepC c m x) (by unfold stepC; omega)
    have h3 : stepC c m x ≤ m := by unfold stepC; omega
    exact ⟨h2.1, Int.le_trans h2.2 h3⟩
theorem costs_bd : ∀ (l : List Int) (k : Nat), 0 ≤ (costs l).getD k 0 ∧ (costs l).getD k 0 ≤ 5 * l.length
  | [], k => by cases k <;> simp [costs]
  | a :: r, 0 => by
    have h1 := costs_bd r
    have h2 := sizeW_bd a
    have h3 : (costs r).headD 0 = (costs r).getD 0 0 := by cases costs r <;> rfl
    have h4 := fold_min (costs r) (fun k => (h1 k).1) (itemsW (a :: r)) (sizeW a + 1 + (costs r).headD 0) (by have := (h1 0).1; omega)
    have h5 : (costs (a :: r)).getD 0 0 = (itemsW (a :: r)).foldl (stepC (costs r)) (sizeW a + 1 + (costs r).headD 0) := rfl
    have h6 := (h1 0).2
    rw [h5]
    simp only [List.length_cons]
    omega
  | a :: r, k + 1 => by
    have h1 := costs_bd r k
    have h2 : (costs (a :: r)).getD (k + 1) 0 = (costs r).getD k 0 := rfl
    rw [h2]
    simp only [List.length_cons]
    omega
theorem costs_head (l : List Int) : (costs l).headD 0 = (costs l).getD 0 0 := by cases costs l <;> rfl
/-- running: the least costs of those that have come -/
def runC (l : List Int) (pre : List It) : Int := pre.foldl (stepC (costs l.tail)) (sizeW (l.headD 0) + 1 + (costs l.tail).headD 0)
theorem runC_next (l : List Int) (pre : List It) (x : It) : runC l (pre ++ [x]) = stepC (costs l.tail) (runC l pre) x := by simp [runC]
theorem runC_all {l : List Int} (h : 1 ≤ l.length) : runC l (itemsW l) = (costs l).headD 0 := by
  cases l with
  | nil => simp at h
  | cons a r => rfl
theorem runC_bd (l : List Int) (pre : List It) : 0 ≤ runC l pre ∧ runC l pre ≤ 5 * l.length + 5 := by
  have h1 := costs_bd l.tail
  have h2 := sizeW_bd (l.headD 0)
  have h3 := h1 0
  have h4 : l.tail.length ≤ l.length := by simp
  have h5 := fold_min (costs l.tail) (fun k => (h1 k).1) pre (sizeW (l.headD 0) + 1 + (costs l.tail).headD 0) (by rw [costs_head]; omega)
  rw [costs_head] at h5
  unfold runC
  rw [costs_head]
  omega
/-- running: the item taken among those that have come -/
def runI (l : List Int) (pre : List It) : It := pre.foldl (stepI (costs l)) ([], 0)
theorem runI_next (l : List Int) (pre : List It) (x : It) : runI l (pre ++ [x]) = stepI (costs l) (runI l pre) x := by simp [runI]
theorem runI_all (l : List Int) : runI l (itemsW l) = bestI l := rfl
theorem foldI_ok {l : List Int} (h : OkL l) (hl : 1 ≤ l.length) (hn : l.length ≤ 9999) (c : List Int) : ∀ (pre : List It) (b : It), (b.1.length ≤ 9 ∧ b.2 ≤ l.length ∧ (b.2 ≠ 0 → b ∈ itemsW l)) → (∀ x ∈ pre, x ∈ itemsW l) →
    ((pre.foldl (stepI c) b).1.length ≤ 9 ∧ (pre.foldl (stepI c) b).2 ≤ l.length ∧ ((pre.foldl (stepI c) b).2 ≠ 0 → pre.foldl (stepI c) b ∈ itemsW l))
  | [], b, hb, _ => hb
  | x :: r, b, hb, hx => by
    have hm := hx x (by simp)
    have ho := items_ok h hl hn hm
    refine foldI_ok h hl hn c r (stepI c b x) ?_ (fun y hy => hx y (by simp [hy]))
    unfold stepI
    split
    · exact ⟨ho.len, ho.le, fun _ => hm⟩
    · exact hb
theorem runI_ok {l : List Int} (h : OkL l) (hl : 1 ≤ l.length) (hn : l.length ≤ 9999) (pre : List It) (hx : ∀ x ∈ pre, x ∈ itemsW l) : (runI l pre).1.length ≤ 9 ∧ (runI l pre).2 ≤ l.length ∧ ((runI l pre).2 ≠ 0 → runI l pre ∈ itemsW l) :=
  foldI_ok h hl hn _ pre ([], 0) ⟨by simp, by simp, by simp⟩ hx
theorem fold_hit (c : List Int) : ∀ (L : List It) (m : Int), L.foldl (stepC c) m = m ∨ ∃ x ∈ L, L.foldl (stepC c) m = x.1.length + 1 + c.getD (x.2 - 1) 0
  | [], m => .inl rfl
  | y :: r, m => by
    rcases fold_hit c r (stepC c m y) with h | ⟨x, hx, h⟩
    · rcases (show stepC c m y = m ∨ stepC c m y = y.1.length + 1 + c.getD (y.2 - 1) 0 by unfold stepC; omega) with h1 | h1
      · exact .inl (h.trans h1)
      · exact .inr ⟨y, by simp, h.trans h1⟩
    · exact .inr ⟨x, by simp [hx], h⟩
theorem fold_taken (c : List Int) : ∀ (L : List It) (b : It), (∀ x ∈ L, x.2 ≠ 0) → (b.2 ≠ 0 ∨ ∃ x ∈ L, (x.1.length : Int) + 1 + c.getD x.2 0 = c.headD 0) → (L.foldl (stepI c) b).2 ≠ 0
  | [], b, _, h => by rcases h with h | ⟨x, hx, _⟩; exact h; simp at hx
  | y :: r, b, h0, h => by
    refine fold_taken c r (stepI c b y) (fun x hx => h0 x (by simp [hx])) ?_
    rcases h with h | ⟨x, hx, h⟩
    · left; unfold stepI; split
      · exact h0 y (by simp)
      · exact h
    · simp only [List.mem_cons] at hx
      rcases hx with rfl | hx
      · left; unfold stepI
        by_cases hb : b.2 = 0
        · rw [if_pos ⟨h, .inl hb⟩]; exact h0 x (by simp)
        · split
          · exact h0 x (by simp)
          · exact hb
      · exact .inr ⟨x, hx, h⟩
/-- the item that is taken -/
theorem best_ok {l : List Int} (h : OkL l) (hl : 1 ≤ l.length) (hn : l.length ≤ 9999) : bestI l ∈ itemsW l ∧ ItOk l (bestI l) := by
  have hne : (bestI l).2 ≠ 0 := by
    refine fold_taken _ _ _ (fun x hx => by have := (items_ok h hl hn hx).one; omega) (.inr ?_)
    have key : ∀ x ∈ itemsW l, (costs l).getD x.2 0 = (costs l.tail).getD (x.2 - 1) 0 := by
      intro x hx
      have h1 := (items_ok h hl hn hx).one
      cases l with
      | nil => simp at hl
      | cons a r =>
        obtain ⟨k, hk⟩ : ∃ k, x.2 = k + 1 := ⟨x.2 - 1, by omega⟩
        rw [hk]; rfl
    have hall := runC_all hl
    rcases fold_hit (costs l.tail) (itemsW l) (sizeW (l.headD 0) + 1 + (costs l.tail).headD 0) with h2 | ⟨x, hx, h2⟩
    · refine ⟨(digL (l.headD 0), 1), by simp [itemsW], ?_⟩
      rw [key _ (by simp [itemsW])]
      rw [← hall]
      unfold runC
      rw [h2, costs_head]
      have := itoa_len h.headD.1 h.headD.2
      rw [← digL_eq h.headD.1 (by have := h.headD.2; omega)] at this
      simp only [Nat.sub_self]
      omega
    · refine ⟨x, hx, ?_⟩
      rw [key _ hx, ← hall]
      unfold runC
      rw [h2]
  have hm := (runI_ok h hl hn (itemsW l) (fun _ hx => hx)).2.2 (by rw [runI_all]; exact hne)
  rw [runI_all] at hm
  exact ⟨hm, items_ok h hl hn hm⟩
/-- pieces behind others -/
def tailC (L : List (List UInt8)) : List UInt8 := L.flatMap fun x => 44 :: x
theorem joinC_cons (x : List UInt8) : ∀ L : List (List UInt8), joinC (x :: L) = x ++ tailC L := by
  intro L
  induction L generalizing x with
  | nil => simp [joinC, tailC]
  | cons y r ih => rw [joinC, ih y]; simp [tailC]
theorem pieces_more : ∀ (f g : Nat) (l : List Int), OkL l → l.length ≤ 9999 → l.length ≤ f → l.length ≤ g → piecesL f l = piecesL g l
  | 0, g, l, _, _, h, _ => by
    have : l = [] := List.length_eq_zero_iff.1 (by omega)
    subst this; cases g <;> rfl
  | f + 1, 0, l, _, _, _, h => by
    have : l = [] := List.length_eq_zero_iff.1 (by omega)
    subst this; rfl
  | f + 1, g + 1, [], _, _, _, _ => rfl
  | f + 1, g + 1, a :: r, ho, hn, h1, h2 => by
    have hb := (best_ok ho (by simp) hn).2
    have hone := hb.one
    simp only [List.length_cons] at h1 h2 hn
    unfold piecesL
    rw [pieces_more f g _ (ho.drop _) (by simp only [List.length_drop, List.length_cons]; omega) (by simp only [List.length_drop, List.length_cons]; omega) (by simp only [List.length_drop, List.length_cons]; omega)]
/-- the pieces of what is left -/
def pcs (l : List Int) : List (List UInt8) := piecesL l.length l
theorem pcs_cons {l : List Int} (h : OkL l) (hl : 1 ≤ l.length) (hn : l.length ≤ 9999) : pcs l = (bestI l).1 :: pcs (l.drop (bestI l).2) := by
  have hb := (best_ok h hl hn).2
  have hone := hb.one
  cases l with
  | nil => simp at hl
  | cons a r =>
    simp only [List.length_cons] at hn
    unfold pcs
    show (bestI (a :: r)).1 :: piecesL r.length ((a :: r).drop (bestI (a :: r)).2) = _
    rw [pieces_more r.length ((a :: r).drop (bestI (a :: r)).2).length _ (h.drop _) (by simp only [List.length_drop, List.length_cons]; omega) (by simp only [List.length_drop, List.length_cons]; omega) (Nat.le_refl _)]
theorem pcs_len : ∀ (n : Nat) (l : List Int), l.length = n → OkL l → l.length ≤ 9999 → (tailC (pcs l)).length ≤ 10 * l.length := by
  intro n
  induction n using Nat.strongRecOn with
  | _ n ih =>
    intro l hl ho hn
    by_cases h0 : l.length = 0
    · have : l = [] := List.length_eq_zero_iff.1 h0
      subst this; simp [pcs, piecesL, tailC]
    · have hb := (best_ok ho (by omega) hn).2
      have h1 := hb.one
      have h2 := hb.le
      have h3 := hb.len
      rw [pcs_cons ho (by omega) hn]
      have h4 := ih (l.length - (bestI l).2) (by omega) (l.drop (bestI l).2) (by simp) (ho.drop _) (by simp only [List.length_drop]; omega)
      simp only [List.length_drop] at h4
      simp only [tailC, List.flatMap_cons, List.length_append, List.length_cons] at h4 ⊢
      omega
end Go.Proofs.YtohcmfobnkaaiaaGreatDoor
