/- Plain: the texts of lists, and that List writes the least of them. -/
import Derived.Test.YtohcmfobnkaaiaaGreatDoorWdQ
import Derived.Test.YtohcmfobnkaaiaaGreatDoorWdP
set_option linter.unusedSimpArgs false
set_option linter.unusedVariables false
namespace Go.Proofs.YtohcmfobnkaaiaaGreatDoor
open Go

/-! ### the order of texts -/
theorem bl_irrefl : ∀ a : List UInt8, Op.bytesLess a a = false
  | [] => rfl
  | x :: a => by simp [Op.bytesLess, bl_irrefl a]
theorem u8_tri (x y : UInt8) : x < y ∨ x = y ∨ y < x := by
  rcases Nat.lt_trichotomy x.toNat y.toNat with h | h | h
  · exact .inl (UInt8.lt_iff_toNat_lt.2 h)
  · exact .inr (.inl (UInt8.toNat.inj h))
  · exact .inr (.inr (UInt8.lt_iff_toNat_lt.2 h))
theorem u8_asymm {x y : UInt8} (h : x < y) : ¬ y < x := by rw [UInt8.lt_iff_toNat_lt] at *; omega
theorem u8_ne {x y : UInt8} (h : x < y) : x ≠ y := fun e => by rw [e, UInt8.lt_iff_toNat_lt] at h; omega
theorem u8_trans {x y z : UInt8} (h : x < y) (h2 : y < z) : x < z := by rw [UInt8.lt_iff_toNat_lt] at *; omega
theorem bl_cons (x y : UInt8) (a b : List UInt8) : Op.bytesLess (x :: a) (y :: b) = (decide (x < y) || (x == y && Op.bytesLess a b)) := rfl
theorem bl_not {x y : UInt8} {a b : List UInt8} : Op.bytesLess (x :: a) (y :: b) = false ↔ (y < x ∨ (x = y ∧ Op.bytesLess a b = false)) := by
  rw [bl_cons, Bool.or_eq_false_iff, decide_eq_false_iff_not, Bool.and_eq_false_iff, beq_eq_false_iff_ne]
  constructor
  · rintro ⟨h, h2⟩
    rcases u8_tri x y with h3 | h3 | h3
    · exact absurd h3 h
    · refine .inr ⟨h3, ?_⟩
      rcases h2 with h2 | h2
      · exact absurd h3 h2
      · exact h2
    · exact .inl h3
  · rintro (h | ⟨rfl, h⟩)
    · exact ⟨u8_asymm h, .inl (fun e => u8_ne h e.symm)⟩
    · exact ⟨fun hh => u8_ne hh rfl, .inr h⟩
theorem bl_tri : ∀ a b : List UInt8, Op.bytesLess a b = false → Op.bytesLess b a = false → a = b
  | [], [], _, _ => rfl
  | [], _ :: _, h, _ => by simp [Op.bytesLess] at h
  | _ :: _, [], _, h => by simp [Op.bytesLess] at h
  | x :: a, y :: b, h1, h2 => by
    rcases bl_not.1 h1 with h | ⟨rfl, h⟩
    · rcases bl_not.1 h2 with h' | ⟨rfl, h'⟩
      · exact absurd h' (u8_asymm h)
      · exact absurd rfl (u8_ne h)
    · rcases bl_not.1 h2 with h' | ⟨_, h'⟩
      · exact absurd rfl (u8_ne h')
      · rw [bl_tri a b h h']
theorem bl_ntrans : ∀ a b c : List UInt8, Op.bytesLess a b = false → Op.bytesLess b c = false → Op.bytesLess a c = false
  | a, b, [], _, _ => by cases a <;> rfl
  | a, [], z :: c, _, h => by simp [Op.bytesLess] at h
  | [], y :: b, z :: c, h, _ => by simp [Op.bytesLess] at h
  | x :: a, y :: b, z :: c, h1, h2 => by
    rw [bl_not] at *
    rcases h1 with h1 | ⟨rfl, h1⟩
    · rcases h2 with h2 | ⟨rfl, h2⟩
      · exact .inl (u8_trans h2 h1)
      · exact .inl h1
    · rcases h2 with h2 | ⟨rfl, h2⟩
      · exact .inl h2
      · exact .inr ⟨rfl, bl_ntrans a b c h1 h2⟩
theorem bl_asymm {a b : List UInt8} (h : Op.bytesLess a b = true) : Op.bytesLess b a = false := by
  cases h2 : Op.bytesLess b a with
  | false => rfl
  | true =>
    exfalso
    induction a generalizing b with
    | nil => cases b <;> simp [Op.bytesLess] at h2
    | cons x a ih =>
      cases b with
      | nil => simp [Op.bytesLess] at h
      | cons y b =>
        rw [bl_cons, Bool.or_eq_true, decide_eq_true_eq, Bool.and_eq_true, beq_iff_eq] at h h2
        rcases h with h | ⟨rfl, h⟩
        · rcases h2 with h2 | ⟨rfl, h2⟩
          · exact u8_asymm h h2
          · exact u8_ne h rfl
        · rcases h2 with h2 | ⟨_, h2⟩
          · exact u8_ne h2 rfl
          · exact ih h h2
theorem bl_app (p a b : List UInt8) : Op.bytesLess (p ++ a) (p ++ b) = Op.bytesLess a b := by
  induction p with
  | nil => rfl
  | cons x p ih => rw [List.cons_append, List.cons_append, bl_cons, ih]; simp
theorem bl_snoc : ∀ (a b z : List UInt8), a.length = b.length → Op.bytesLess (a ++ z) (b ++ z) = Op.bytesLess a b
  | [], [], z, _ => by simp [bl_irrefl]
  | [], _ :: _, _, h => by simp at h
  | _ :: _, [], _, h => by simp at h
  | x :: a, y :: b, z, h => by
    rw [List.cons_append, List.cons_append, bl_cons, bl_cons, bl_snoc a b z (by simpa using h)]
/-- what stands behind the first commas does not matter -/
theorem bl_sep : ∀ (a b A B : List UInt8), (∀ c ∈ a, c ≠ 44) → (∀ c ∈ b, c ≠ 44) → a ≠ b → Op.bytesLess (a ++ 44 :: A) (b ++ 44 :: B) = Op.bytesLess (a ++ [44]) (b ++ [44])
  | [], [], _, _, _, _, h => absurd rfl h
  | [], y :: b, A, B, _, hb, _ => by
    have := hb y (by simp)
    show (decide ((44 : UInt8) < y) || ((44 : UInt8) == y && _)) = (decide ((44 : UInt8) < y) || ((44 : UInt8) == y && _))
    rw [beq_eq_false_iff_ne.2 (Ne.symm this)]
    simp
  | x :: a, [], A, B, ha, _, _ => by
    have := ha x (by simp)
    show (decide (x < 44) || (x == 44 && _)) = (decide (x < 44) || (x == 44 && _))
    rw [beq_eq_false_iff_ne.2 this]
    simp
  | x :: a, y :: b, A, B, ha, hb, h => by
    rw [List.cons_append, List.cons_append, List.cons_append, List.cons_append, bl_cons, bl_cons]
    by_cases hxy : x = y
    · subst hxy
      rw [bl_sep a b A B (fun c hc => ha c (by simp [hc])) (fun c hc => hb c (by simp [hc])) (fun e => h (by rw [e]))]
    · rw [beq_eq_false_iff_ne.2 hxy]; simp
theorem ltB_irrefl (a : List UInt8) : ltB a a = false := by unfold ltB; simp [bl_irrefl]
theorem ltB_tri {a b : List UInt8} (h1 : ltB a b = false) (h2 : ltB b a = false) : a = b := by
  unfold ltB at h1 h2
  simp only [Bool.or_eq_false_iff, decide_eq_false_iff_not, Bool.and_eq_false_iff] at h1 h2
  have hl : a.length = b.length := by omega
  refine bl_tri a b ?_ ?_
  · rcases h1.2 with h | h
    · exact absurd hl h
    · exact h
  · rcases h2.2 with h | h
    · exact absurd hl.symm h
    · exact h

/-! ### items -/
theorem tw_cut (p : Nat → Bool) : ∀ n, ∃ k, k ≤ n ∧ (∀ i, i < k → p i = true) ∧ (k = n ∨ p k = false)
  | 0 => ⟨0, Nat.le_refl _, fun i h => absurd h (Nat.not_lt_zero _), .inl rfl⟩
  | n + 1 => by
    obtain ⟨k, hk, ha, hb⟩ := tw_cut p n
    rcases hb with rfl | hb
    · cases hp : p k with
      | false => exact ⟨k, by omega, ha, .inr hp⟩
      | true => exact ⟨k + 1, Nat.le_refl _, fun i hi => by
          rcases Nat.lt_succ_iff_lt_or_eq.1 hi with h | rfl
          · exact ha i h
          · exact hp, .inl rfl⟩
    · exact ⟨k, by omega, ha, .inr hb⟩
theorem tw_mem (p : Nat → Bool) (n j : Nat) : j ∈ (List.range n).takeWhile p ↔ j < n ∧ ∀ i, i ≤ j → p i = true := by
  obtain ⟨k, hk, ha, hb⟩ := tw_cut p n
  rw [tw_range p hk ha hb, List.mem_range]
  constructor
  · intro h
    exact ⟨by omega, fun i hi => ha i (by omega)⟩
  · rintro ⟨h, h2⟩
    rcases hb with rfl | hb
    · exact h
    · refine Classical.byContradiction fun hn => ?_
      have := h2 k (by omega)
      rw [hb] at this; cases this
theorem mem_upL {l : List Int} {j : Nat} : j ∈ upL l ↔ j + 1 < l.length ∧ ∀ i, i ≤ j → l.getD (i + 1) 0 = l.headD 0 + (i + 1 : Nat) := by
  unfold upL
  rw [tw_mem]
  simp only [decide_eq_true_eq]
  constructor
  · rintro ⟨a, b⟩; exact ⟨by omega, b⟩
  · rintro ⟨a, b⟩; exact ⟨by omega, b⟩
theorem mem_alL {l : List Int} {j : Nat} : j ∈ alL l ↔ j + 1 < l.length ∧ ∀ i, i ≤ j → l.getD (i + 1) 0 = l.headD 0 := by
  unfold alL
  rw [tw_mem]
  simp only [decide_eq_true_eq]
  constructor
  · rintro ⟨a, b⟩; exact ⟨by omega, b⟩
  · rintro ⟨a, b⟩; exact ⟨by omega, b⟩
theorem mem_items {l : List Int} {x : It} : x ∈ itemsW l ↔ x = (digL (l.headD 0), 1) ∨ (∃ j, j ∈ upL l ∧ (digL (l.headD 0) ++ 45 :: digL (l.getD (j + 1) 0), j + 2) = x) ∨ ∃ j, j ∈ alL l ∧ (digL ((j + 2 : Nat) : Int) ++ 120 :: digL (l.headD 0), j + 2) = x := by
  unfold itemsW
  simp only [List.mem_cons, List.mem_append, List.mem_map]
/-- digits -/
theorem digL_all {n : Int} (h0 : 0 ≤ n) (h1 : n ≤ 9999) : (digL n).all digB = true := by
  rw [digL_eq h0 (by omega), show Lib.itoa n = Lib.decDigits n.toNat from by unfold Lib.itoa; rw [if_neg (by omega)]]
  exact dec_all _
theorem digL_nat {n : Int} (h0 : 0 ≤ n) (h1 : n ≤ 9999) : digL n = Lib.decDigits n.toNat := by
  rw [digL_eq h0 (by omega), show Lib.itoa n = Lib.decDigits n.toNat from by unfold Lib.itoa; rw [if_neg (by omega)]]
theorem digL_inj {n m : Int} (h0 : 0 ≤ n) (h1 : n ≤ 9999) (k0 : 0 ≤ m) (k1 : m ≤ 9999) (h : digL n = digL m) : n = m := by
  rw [digL_nat h0 h1, digL_nat k0 k1] at h
  have := congrArg natV h
  rw [dec_val, dec_val] at this
  omega
theorem dig_not {c : UInt8} (h : digB c = true) : c ≠ 44 ∧ c ≠ 45 ∧ c ≠ 120 := by
  refine ⟨fun e => ?_, fun e => ?_, fun e => ?_⟩ <;> (rw [e] at h; exact absurd h (by decide))
theorem digL_clean {n : Int} (h0 : 0 ≤ n) (h1 : n ≤ 9999) : ∀ c ∈ digL n, c ≠ 44 ∧ c ≠ 45 ∧ c ≠ 120 := fun c hc => dig_not (List.all_eq_true.1 (digL_all h0 h1) c hc)
theorem app_inj {s : UInt8} : ∀ {a b A B : List UInt8}, (∀ c ∈ a, c ≠ s) → (∀ c ∈ b, c ≠ s) → a ++ s :: A = b ++ s :: B → a = b ∧ A = B
  | [], [], A, B, _, _, h => ⟨rfl, (List.cons.inj h).2⟩
  | [], y :: b, A, B, _, hb, h => absurd (List.cons.inj h).1.symm (hb y (by simp))
  | x :: a, [], A, B, ha, _, h => absurd (List.cons.inj h).1 (ha x (by simp))
  | x :: a, y :: b, A, B, ha, hb, h => by
    rw [List.cons_append, List.cons_append, List.cons.injEq] at h
    obtain ⟨e1, e2⟩ := app_inj (fun c hc => ha c (by simp [hc])) (fun c hc => hb c (by simp [hc])) h.2
    exact ⟨by rw [h.1, e1], e2⟩
theorem items_clean {l : List Int} (h : OkL l) (hn : l.length ≤ 9999) {x : It} (hx : x ∈ itemsW l) : ∀ c ∈ x.1, c ≠ 44 := by
  have h1 := digL_clean h.headD.1 h.headD.2
  rcases mem_items.1 hx with rfl | ⟨j, hj, rfl⟩ | ⟨j, hj, rfl⟩
  · exact fun c hc => (h1 c hc).1
  · have h2 := digL_clean (h.getD (j + 1)).1 (h.getD (j + 1)).2
    intro c hc
    simp only [List.mem_append, List.mem_cons] at hc
    rcases hc with hc | rfl | hc
    · exact (h1 c hc).1
    · decide
    · exact (h2 c hc).1
  · have hj' := (mem_alL.1 hj).1
    have h2 := digL_clean (n := ((j + 2 : Nat) : Int)) (by omega) (by omega)
    intro c hc
    simp only [List.mem_append, List.mem_cons] at hc
    rcases hc with hc | rfl | hc
    · exact (h2 c hc).1
    · decide
    · exact (h1 c hc).1
/-- an item is known by its text -/
theorem item_inj {l : List Int} (h : OkL l) (hn : l.length ≤ 9999) {x y : It} (hx : x ∈ itemsW l) (hy : y ∈ itemsW l) (e : x.1 = y.1) : x = y := by
  have h1 := digL_clean h.headD.1 h.headD.2
  have hno45 : ∀ (a : List UInt8) (A : List UInt8), (∀ c ∈ a, c ≠ 45) → a = A ++ 45 :: [] ++ [] → False := fun a A ha e => ha 45 (by rw [e]; simp) rfl
  rcases mem_items.1 hx with rfl | ⟨j, hj, rfl⟩ | ⟨j, hj, rfl⟩
  · rcases mem_items.1 hy with rfl | ⟨i, hi, rfl⟩ | ⟨i, hi, rfl⟩
    · rfl
    · simp only at e
      exact absurd rfl ((h1 45 (by rw [e]; simp)).2.1)
    · simp only at e
      exact absurd rfl ((h1 120 (by rw [e]; simp)).2.2)
  · rcases mem_items.1 hy with rfl | ⟨i, hi, rfl⟩ | ⟨i, hi, rfl⟩
    · simp only at e
      exact absurd rfl ((h1 45 (by rw [← e]; simp)).2.1)
    · simp only at e
      obtain ⟨_, e2⟩ := app_inj (fun c hc => (h1 c hc).2.1) (fun c hc => (h1 c hc).2.1) e
      have e3 := digL_inj (h.getD (j + 1)).1 (h.getD (j + 1)).2 (h.getD (i + 1)).1 (h.getD (i + 1)).2 e2
      have a := (mem_upL.1 hj).2 j (Nat.le_refl _)
      have b := (mem_upL.1 hi).2 i (Nat.le_refl _)
      rw [a, b] at e3
      obtain rfl : j = i := by omega
      rfl
    · simp only at e
      have h2 := digL_clean (n := ((i + 2 : Nat) : Int)) (by omega) (by have := (mem_alL.1 hi).1; omega)
      have : (45 : UInt8) ∈ digL ((i + 2 : Nat) : Int) ++ 120 :: digL (l.headD 0) := by rw [← e]; simp
      simp only [List.mem_append, List.mem_cons] at this
      rcases this with hc | hc | hc
      · exact absurd rfl (h2 _ hc).2.1
      · exact absurd hc (by decide)
      · exact absurd rfl (h1 _ hc).2.1
  · have h2 := digL_clean (n := ((j + 2 : Nat) : Int)) (by omega) (by have := (mem_alL.1 hj).1; omega)
    rcases mem_items.1 hy with rfl | ⟨i, hi, rfl⟩ | ⟨i, hi, rfl⟩
    · simp only at e
      exact absurd rfl ((h1 120 (by rw [← e]; simp)).2.2)
    · simp only at e
      have : (45 : UInt8) ∈ digL ((j + 2 : Nat) : Int) ++ 120 :: digL (l.headD 0) := by rw [e]; simp
      simp only [List.mem_append, List.mem_cons] at this
      rcases this with hc | hc | hc
      · exact absurd rfl (h2 _ hc).2.1
      · exact absurd hc (by decide)
      · exact absurd rfl (h1 _ hc).2.1
    · simp only at e
      have h3 := digL_clean (n := ((i + 2 : Nat) : Int)) (by omega) (by have := (mem_alL.1 hi).1; omega)
      obtain ⟨e2, _⟩ := app_inj (fun c hc => (h2 c hc).2.2) (fun c hc => (h3 c hc).2.2) e
      have e3 := digL_inj (by omega) (by have := (mem_alL.1 hj).1; omega) (by omega) (by have := (mem_alL.1 hi).1; omega) e2
      obtain rfl : j = i := by omega
      rfl

/-! ### texts -/
/-- items that are the list -/
def IsItems : List Int → List It → Prop
  | l, [] => l = []
  | l, x :: r => l ≠ [] ∧ x ∈ itemsW l ∧ IsItems (l.drop x.2) r
/-- their texts, a comma behind each -/
def tT (xs : List It) : List UInt8 := xs.flatMap fun x => x.1 ++ [44]
theorem tT_cons (x : It) (r : List It) : tT (x :: r) = x.1 ++ 44 :: tT r := by simp [tT]
theorem tT_join : ∀ (xs : List It), xs ≠ [] → tT xs = joinC (xs.map (·.1)) ++ [44]
  | [], h => absurd rfl h
  | [x], _ => by simp [tT, joinC]
  | x :: y :: r, _ => by
    have ih := tT_join (y :: r) (by simp)
    rw [tT_cons, ih]
    simp only [List.map_cons, joinC, List.append_assoc, List.cons_append]
/-- the items that are taken -/
def bsF : Nat → List Int → List It
  | 0, _ => []
  | _ + 1, [] => []
  | f + 1, a :: r => bestI (a :: r) :: bsF f ((a :: r).drop (bestI (a :: r)).2)
theorem bs_pieces : ∀ (f : Nat) (l : List Int), piecesL f l = (bsF f l).map (·.1)
  | 0, _ => rfl
  | _ + 1, [] => rfl
  | f + 1, a :: r => by rw [piecesL, bsF, bs_pieces f, List.map_cons]
theorem fold_le (c : List Int) : ∀ (L : List It) (m : Int), L.foldl (stepC c) m ≤ m ∧ ∀ x ∈ L, L.foldl (stepC c) m ≤ x.1.length + 1 + c.getD (x.2 - 1) 0
  | [], m => ⟨Int.le_refl _, fun x h => by simp at h⟩
  | y :: r, m => by
    obtain ⟨h1, h2⟩ := fold_le c r (stepC c m y)
    rw [List.foldl_cons]
    have h3 : stepC c m y ≤ m ∧ stepC c m y ≤ y.1.length + 1 + c.getD (y.2 - 1) 0 := by unfold stepC; omega
    refine ⟨by omega, fun x hx => ?_⟩
    rcases List.mem_cons.1 hx with rfl | hx
    · omega
    · exact h2 x hx
theorem costs_key {l : List Int} (hl : 1 ≤ l.length) {k : Nat} (hk : 1 ≤ k) (hkl : k ≤ l.length) : (costs l).getD k 0 = (costs l.tail).getD (k - 1) 0 ∧ (costs l).getD k 0 = (costs (l.drop k)).headD 0 := by
  refine ⟨?_, ?_⟩
  · cases l with
    | nil => simp at hl
    | cons a r =>
      obtain ⟨m, rfl⟩ : ∃ m, k = m + 1 := ⟨k - 1, by omega⟩
      rfl
  · rw [costs_head]; exact costs_at l hkl 0
/-- no item leads to less than the least -/
theorem cost_le {l : List Int} (h : OkL l) (hl : 1 ≤ l.length) (hn : l.length ≤ 9999) {x : It} (hx : x ∈ itemsW l) : (costs l).headD 0 ≤ x.1.length + 1 + (costs (l.drop x.2)).headD 0 := by
  have ho := items_ok h hl hn hx
  obtain ⟨k1, k2⟩ := costs_key hl ho.one ho.le
  rw [← runC_all hl, ← k2, k1]
  exact (fold_le _ _ _).2 x hx
/-- what is taken so far attains the least, and is the least text of those -/
theorem foldI_best (c : List Int) : ∀ (L : List It) (b : It), (∀ x ∈ L, x.2 ≠ 0) → (b.2 ≠ 0 → (b.1.length : Int) + 1 + c.getD b.2 0 = c.headD 0) →
    ((L.foldl (stepI c) b).2 ≠ 0 → ((L.foldl (stepI c) b).1.length : Int) + 1 + c.getD (L.foldl (stepI c) b).2 0 = c.headD 0) ∧
    (b.2 ≠ 0 → (L.foldl (stepI c) b).2 ≠ 0 ∧ Op.bytesLess (b.1 ++ [44]) ((L.foldl (stepI c) b).1 ++ [44]) = false) ∧
    ∀ x ∈ L, (x.1.length : Int) + 1 + c.getD x.2 0 = c.headD 0 → Op.bytesLess (x.1 ++ [44]) ((L.foldl (stepI c) b).1 ++ [44]) = false
  | [], b, _, hb => ⟨hb, fun h => ⟨h, bl_irrefl _⟩, fun x hx => by simp at hx⟩
  | y :: r, b, h, hb => by
    have hy := h y (by simp)
    have h' : ∀ x ∈ r, x.2 ≠ 0 := fun x hx => h x (by simp [hx])
    have hb' : (stepI c b y).2 ≠ 0 → ((stepI c b y).1.length : Int) + 1 + c.getD (stepI c b y).2 0 = c.headD 0 := by
      unfold stepI
      split
      · rename_i hc; exact fun _ => hc.1
      · exact hb
    obtain ⟨h1, h2, h3⟩ := foldI_best c r (stepI c b y) h' hb'
    rw [List.foldl_cons]
    refine ⟨h1, fun hb0 => ?_, fun x hx ha => ?_⟩
    · have hs : (stepI c b y).2 ≠ 0 ∧ Op.bytesLess (b.1 ++ [44]) ((stepI c b y).1 ++ [44]) = false := by
        unfold stepI
        split
        · rename_i hc
          refine ⟨hy, ?_⟩
          rcases hc.2 with h4 | h4
          · exact absurd h4 hb0
          · exact bl_asymm h4
        · exact ⟨hb0, bl_irrefl _⟩
      obtain ⟨h4, h5⟩ := h2 hs.1
      exact ⟨h4, bl_ntrans _ _ _ hs.2 h5⟩
    · rcases List.mem_cons.1 hx with rfl | hx
      · have hs : (stepI c b x).2 ≠ 0 ∧ Op.bytesLess (x.1 ++ [44]) ((stepI c b x).1 ++ [44]) = false := by
          unfold stepI
          split
          · exact ⟨hy, bl_irrefl _⟩
          · rename_i hc
            have h4 : ¬ (b.2 = 0 ∨ Op.bytesLess (x.1 ++ [44]) (b.1 ++ [44]) = true) := fun hh => hc ⟨ha, hh⟩
            refine ⟨fun e => h4 (.inl e), ?_⟩
            cases hbl : Op.bytesLess (x.1 ++ [44]) (b.1 ++ [44]) with
            | false => rfl
            | true => exact absurd (.inr hbl) h4
        obtain ⟨_, h5⟩ := h2 hs.1
        exact bl_ntrans _ _ _ hs.2 h5
      · exact h3 x hx ha
theorem best_least {l : List Int} (h : OkL l) (hl : 1 ≤ l.length) (hn : l.length ≤ 9999) :
    ((bestI l).1.length : Int) + 1 + (costs (l.drop (bestI l).2)).headD 0 = (costs l).headD 0 ∧
    ∀ x ∈ itemsW l, (x.1.length : Int) + 1 + (costs (l.drop x.2)).headD 0 = (costs l).headD 0 → Op.bytesLess (x.1 ++ [44]) ((bestI l).1 ++ [44]) = false := by
  obtain ⟨hm, ho⟩ := best_ok h hl hn
  obtain ⟨h1, _, h3⟩ := foldI_best (costs l) (itemsW l) ([], 0) (fun x hx => by have := (items_ok h hl hn hx).one; omega) (fun hh => absurd rfl hh)
  have e : (itemsW l).foldl (stepI (costs l)) ([], 0) = bestI l := rfl
  rw [e] at h1 h3
  have h4 := h1 (by have := ho.one; omega)
  rw [(costs_key hl ho.one ho.le).2] at h4
  refine ⟨h4, fun x hx ha => h3 x hx ?_⟩
  have hx' := items_ok h hl hn hx
  rw [(costs_key hl hx'.one hx'.le).2]
  exact ha
theorem costs_nil : (costs []).headD 0 = 0 := rfl
/-- the items that are taken are the list, cost the least, and no other ones are a lesser text -/
theorem bs_least : ∀ (n : Nat) (l : List Int) (f : Nat), l.length = n → l.length ≤ f → OkL l → l.length ≤ 9999 →
    IsItems l (bsF f l) ∧ ((tT (bsF f l)).length : Int) = (costs l).headD 0 ∧
    ∀ xs, IsItems l xs → (costs l).headD 0 ≤ (tT xs).length ∧ (((tT xs).length : Int) = (costs l).headD 0 → Op.bytesLess (tT xs) (tT (bsF f l)) = false) := by
  intro n
  induction n using Nat.strongRecOn with
  | ind n ih =>
    intro l f hln hf h hn
    by_cases h0 : l = []
    · subst h0
      have e : bsF f [] = [] := by cases f <;> rfl
      rw [e]
      refine ⟨rfl, rfl, fun xs hx => ?_⟩
      cases xs with
      | nil => exact ⟨Int.le_refl _, fun _ => rfl⟩
      | cons x r => exact absurd rfl hx.1
    · have hl : 1 ≤ l.length := List.length_pos_iff.2 h0
      obtain ⟨f, rfl⟩ : ∃ g, f = g + 1 := ⟨f - 1, by omega⟩
      have hb0 : bsF (f + 1) l = bestI l :: bsF f (l.drop (bestI l).2) := by
        cases l with
        | nil => exact absurd rfl h0
        | cons a r => rfl
      obtain ⟨hm, ho⟩ := best_ok h hl hn
      obtain ⟨hc1, hc2⟩ := best_least h hl hn
      rw [hb0]
      have hone := ho.one
      have hle := ho.le
      have hdl : ∀ k, 1 ≤ k → k ≤ l.length → (l.drop k).length < n := fun k h1 h2 => by rw [List.length_drop]; omega
      obtain ⟨i1, i2, i3⟩ := ih _ (hdl _ hone hle) (l.drop (bestI l).2) f rfl (by rw [List.length_drop]; omega) (h.drop _) (by rw [List.length_drop]; omega)
      refine ⟨⟨h0, hm, i1⟩, ?_, fun xs hx => ?_⟩
      · rw [tT_cons, List.length_append, List.length_cons]; omega
      · cases xs with
        | nil => exact absurd hx h0
        | cons x r =>
          obtain ⟨_, hxm, hxr⟩ := hx
          have hxo := items_ok h hl hn hxm
          have hxc := cost_le h hl hn hxm
          have hx1 := hxo.one
          have hx2 := hxo.le
          obtain ⟨j1, j2, j3⟩ := ih _ (hdl _ hx1 hx2) (l.drop x.2) f rfl (by rw [List.length_drop]; omega) (h.drop _) (by rw [List.length_drop]; omega)
          obtain ⟨j4, j5⟩ := j3 r hxr
          rw [tT_cons, List.length_append, List.length_cons]
          refine ⟨by omega, fun he => ?_⟩
          have he2 : ((tT r).length : Int) = (costs (l.drop x.2)).headD 0 := by omega
          have he3 := hc2 x hxm (by omega)
          rw [tT_cons]
          by_cases hxb : x.1 = (bestI l).1
          · have := item_inj h hn hxm hm hxb
            subst this
            rw [bl_app, bl_cons]
            have := j5 he2
            simp [this]
          · rw [bl_sep _ _ _ _ (items_clean h hn hxm) (items_clean h hn hm) hxb]
            exact he3
/-- the text that List writes -/
def lstT (l : List Int) : List UInt8 := joinC (piecesL l.length l)
theorem lst_least {l : List Int} (h : OkL l) (hn : l.length ≤ 9999) (h0 : l ≠ []) : (∃ xs, xs ≠ [] ∧ IsItems l xs ∧ joinC (xs.map (·.1)) = lstT l) ∧ ((lstT l).length : Int) + 1 = (costs l).headD 0 ∧ ∀ xs, IsItems l xs → ltB (joinC (xs.map (·.1))) (lstT l) = false := by
  obtain ⟨a, b, c⟩ := bs_least _ l l.length rfl (Nat.le_refl _) h hn
  have hne : ∀ xs, IsItems l xs → xs ≠ [] := fun xs hx e => by rw [e] at hx; exact h0 hx
  have hT := tT_join _ (hne _ a)
  have e : lstT l = joinC ((bsF l.length l).map (·.1)) := by unfold lstT; rw [bs_pieces]
  rw [e]
  rw [hT, List.length_append, List.length_singleton] at b
  refine ⟨⟨_, hne _ a, a, rfl⟩, by omega, fun xs hx => ?_⟩
  obtain ⟨c1, c2⟩ := c xs hx
  have hT2 := tT_join _ (hne _ hx)
  rw [hT2, List.length_append, List.length_singleton] at c1 c2
  unfold ltB
  rw [Bool.or_eq_false_iff, decide_eq_false_iff_not, Bool.and_eq_false_iff]
  refine ⟨by omega, ?_⟩
  by_cases hl : (joinC (xs.map (·.1))).length = (joinC ((bsF l.length l).map (·.1))).length
  · have := c2 (by omega)
    rw [hT, bl_snoc _ _ _ hl] at this
    exact .inr this
  · exact .inl (decide_eq_false hl)
theorem lst_len {l : List Int} (h : OkL l) (hn : l.length ≤ 9999) : (lstT l).length ≤ 5 * l.length := by
  by_cases h0 : l = []
  · subst h0; exact Nat.zero_le _
  obtain ⟨_, b, _⟩ := lst_least h hn h0
  have := (costs_bd l 0).2
  rw [← costs_head] at this
  omega
theorem listP_ok {l : List Int} (h : OkL l) (hn : l.length ≤ 500) : listP l = (lstT l, 0) := by
  unfold listP
  rw [if_neg (by omega), if_neg]
  · rfl
  · rw [List.any_eq_true]
    rintro ⟨x, hx, hh⟩
    have := h x hx
    simp only [Bool.or_eq_true, decide_eq_true_eq] at hh
    omega
end Go.Proofs.YtohcmfobnkaaiaaGreatDoor
