/- Plain: the text of instructions that were made is read back. -/
import Derived.Test.YtmfklcnocekdlaaGreatDoorCpTxM
import Derived.Test.YtmfklcnocekdlaaGreatDoorOldB
set_option linter.unusedSimpArgs false
set_option linter.unusedVariables false
namespace Go.Proofs.YtmfklcnocekdlaaGreatDoor
open Go Go.RowKit Tor

theorem step_line {p : Int} {x : Tri} (hp : p ≤ 24) (h : WOk p x) : LineOk (stepOf x) := by
  have hk := h.k
  unfold stepOf
  split
  · exact ⟨.inr (.inr rfl), h.b0, by have := h.b1; simp only; omega, wordE_nil, fun _ => rfl⟩
  · exact ⟨.inr (.inl rfl), h.b0, by have := h.b1; simp only; omega, h.w, fun e => absurd rfl e⟩
theorem rst_line {p s : Int} (hs : 2 ≤ s) (hsp : s ≤ p) (hp : p ≤ 24) : ∀ (l : List Tri) (h : Int), (∀ x ∈ l, WOk p x) → ∀ y ∈ rst p s l h, LineOk y
  | [], _, _ => fun y hy => by simp [rst] at hy
  | x :: r, h, hw => fun y hy => by
    have hx := step_line hp (hw x (by simp))
    have hr : ∀ y ∈ r, WOk p y := fun y hy => hw y (by simp [hy])
    unfold rst at hy
    split at hy
    · rcases List.mem_cons.1 hy with rfl | hy
      · exact hx
      · exact rst_line hs hsp hp r _ hr y hy
    · rcases List.mem_cons.1 hy with rfl | hy
      · have hb := bestUpto_lt (fun h : Nat => runN (x :: r) h s) (p - s + 1).toNat (by omega)
        exact ⟨.inl rfl, by simp only; omega, by simp only; omega, wordE_nil, fun _ => rfl⟩
      rcases List.mem_cons.1 hy with rfl | hy
      · exact hx
      · exact rst_line hs hsp hp r _ hr y hy
theorem line_shaped {x : Tri} (h : LineOk x) : unshB x = false := by
  unfold unshB shapedB
  rcases h.op with h1 | h1 | h1
  · have := h.bare (by omega); simp [h1, this]
  · simp [h1]
  · have := h.bare (by omega); simp [h1, this]
theorem line_good {x : Tri} (h : LineOk x) : badP x = false := by
  unfold badP
  have h1 := h.at0
  have h2 := h.at1
  have h3 := h.wd
  simp only [decide_eq_false_iff_not]
  intro e
  rcases e with e | e | e
  · exact e h3
  · omega
  · omega
theorem print_line {L : List Tri} (hl : L.length ≤ 1000) (h : ∀ x ∈ L, LineOk x) : printR L = (L.flatMap lineB, 0) := by
  unfold printR
  rw [if_neg (by omega), if_neg, if_neg]
  · intro e
    obtain ⟨x, hx, hb⟩ := List.any_eq_true.1 e
    rw [line_good (h x hx)] at hb; cases hb
  · intro e
    obtain ⟨x, hx, hb⟩ := List.any_eq_true.1 e
    rw [line_shaped (h x hx)] at hb; cases hb
theorem line_nonl {x : Tri} (h : LineOk x) : ∀ c ∈ lineR x, c ≠ 10 := by
  intro c hc e
  subst e
  unfold lineR at hc
  rcases List.mem_append.1 hc with hc | hc
  · unfold nameB at hc
    split at hc
    · simp at hc
    split at hc
    · simp at hc
    · simp at hc
  rcases List.mem_cons.1 hc with hc | hc
  · exact absurd hc (by decide)
  rcases List.mem_append.1 hc with hc | hc
  · exact absurd (List.all_eq_true.1 (dec_all x.b.toNat) _ hc) (by decide)
  · unfold sufB at hc
    split at hc
    · split at hc
      · simp at hc
      · rcases List.mem_cons.1 hc with hc | hc
        · exact absurd hc (by decide)
        · exact absurd ((word_lettersC h.wd).2 _ hc) (by decide)
    · simp at hc
theorem spl_line (c : UInt8) (r : List UInt8) : ∀ a : List UInt8, (∀ x ∈ a, x ≠ c) → spl c (a ++ c :: r) = a :: spl c r
  | [], _ => by simp [spl]
  | b :: t, h => by
    have ih := spl_line c r t (fun x hx => h x (by simp [hx]))
    rw [List.cons_append, spl, if_neg (h b (by simp)), ih]
theorem spl_lines : ∀ L : List Tri, (∀ x ∈ L, LineOk x) → spl 10 (L.flatMap lineB) = L.map lineR ++ [[]]
  | [], _ => rfl
  | x :: r, h => by
    have hx := h x (by simp)
    have ih := spl_lines r (fun y hy => h y (by simp [hy]))
    have e : (x :: r).flatMap lineB = lineR x ++ 10 :: r.flatMap lineB := by
      rw [List.flatMap_cons, lineB_eq]; simp
    rw [e, spl_line 10 _ _ (line_nonl hx), ih]; rfl
theorem goC_lines : ∀ (L : List Tri) (k : Nat) (acc : List Tri), (∀ x ∈ L, LineOk x) → k + L.length ≤ 1001 → goC k acc (L.map lineR ++ [[]]) = (acc ++ L, 0, 0)
  | [], k, acc, _, _ => by simp [goC]
  | x :: r, k, acc, h, hk => by
    have hx := h x (by simp)
    simp only [List.length_cons] at hk
    have ih := goC_lines r (k + 1) (acc ++ [x]) (fun y hy => h y (by simp [hy])) (by omega)
    obtain ⟨t, r', ht⟩ : ∃ t r', r.map lineR ++ [[]] = t :: r' := by
      cases r with
      | nil => exact ⟨_, _, rfl⟩
      | cons y z => exact ⟨_, _, rfl⟩
    rw [List.map_cons, List.cons_append, ht, goC, if_neg (by omega), readC_of hx]
    simp only
    rw [← ht, ih]; simp
theorem parse_line {L : List Tri} (hl : L.length ≤ 1000) (h : ∀ x ∈ L, LineOk x) : parseC (L.flatMap lineB) = (L, 0, 0) := by
  have hlen := lines_len L (k := L.length) (by
    rw [List.take_length, List.any_eq_false]
    intro x hx
    rw [line_good (h x hx)]; simp) L.length (Nat.le_refl _)
  rw [List.take_length] at hlen
  unfold parseC
  rw [if_neg (by omega), spl_lines L h, goC_lines L 1 [] h (by omega)]; rfl
end Go.Proofs.YtmfklcnocekdlaaGreatDoor
