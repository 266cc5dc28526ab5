/- Plain: what is compiled makes the works in its order. -/
import Derived.Test.YtogkgoabonbkkaaSheetM
import Derived.Test.YtogkgoabonbkkaaLawQuick
set_option linter.unusedSimpArgs false
set_option linter.unusedVariables false
namespace Go.Proofs.Ytogkgoabonbkkaa
open Go Go.RowKit Tor

/-- a work that is valid -/
structure WOk (p : Int) (x : Tri) : Prop where
  k : x.a = 1 ∨ x.a = 2
  b0 : 0 ≤ x.b
  b1 : x.b ≤ p - 2
  e : x.a = 2 → x.s.size = 0
  w : wordE x.s = 0
theorem wok_of {p : Int} {l : List Tri} (h : sheetE p l = 0) : ∀ x ∈ l, WOk p x := by
  intro x hx
  unfold sheetE at h
  split at h
  · cases h
  · split at h
    · cases h
    · split at h
      · cases h
      · rename_i hb
        split at h
        · cases h
        · rename_i hw
          rw [List.any_eq_true] at hb hw
          have h1 : badW p x = false := by
            cases hbx : badW p x
            · rfl
            · exact absurd ⟨x, hx, hbx⟩ hb
          have h2 : wrongW x = false := by
            cases hbx : wrongW x
            · rfl
            · exact absurd ⟨x, hx, hbx⟩ hw
          rw [badW_false] at h1
          unfold wrongW at h2
          exact ⟨by omega, by omega, by omega, by omega, by simpa using h2⟩

theorem size_zero {s : ByteArray} (h : s.size = 0) : s = .empty := by
  obtain ⟨⟨x⟩⟩ := s
  have : x.length = 0 := h
  have := List.eq_nil_of_length_eq_zero this
  subst this
  rfl
theorem workOf_stepOf {p : Int} {x : Tri} (h : WOk p x) : workOf (stepOf x) = x := by
  obtain ⟨a, b, s⟩ := x
  rcases h.k with e | e
  · simp only at e
    subst e
    simp [workOf, stepOf]
  · have := h.e e
    simp only at e this
    subst e
    rw [size_zero this]
    simp [workOf, stepOf]
theorem stepOf_a (x : Tri) : (stepOf x).a ≠ 1 := by unfold stepOf; split <;> simp
theorem stepOf_b (x : Tri) : (stepOf x).b = x.b := by unfold stepOf; split <;> rfl
theorem fine_step {p s h n : Int} {x : Tri} (hx : WOk p x) (hh : heldB h s x.b = true) (hn : n < 400) : Fine p s h n (stepOf x) := by
  refine ⟨?_, ?_, by rw [stepOf_b]; exact hx.b0, by rw [stepOf_b]; exact hx.b1, fun e => absurd e (stepOf_a x), fun _ => by rw [stepOf_b]; exact hh, fun _ => hn⟩
  · unfold shapedB stepOf
    split
    · rfl
    · simp
  · unfold stepOf
    split
    · rfl
    · exact hx.w
theorem fine_reach {p s h n b : Int} (b0 : 0 ≤ b) (b1 : b ≤ p - s) (hs : 2 ≤ s) : Fine p s h n ⟨1, b, .empty⟩ :=
  ⟨rfl, rfl, b0, by show b ≤ _; omega, fun _ => b1, fun h => absurd rfl h, fun h => absurd rfl h⟩

/-- some place serves for a work -/
theorem place_ex {p s b : Int} (b0 : 0 ≤ b) (b1 : b ≤ p - 2) (hs : 2 ≤ s) (hsp : s ≤ p) : ∃ h : Nat, (h : Int) ≤ p - s ∧ heldB h s b = true := by
  refine ⟨(min b (p - s)).toNat, by omega, ?_⟩
  rw [held_iff]
  omega
theorem best_held {p s : Int} {x : Tri} {r : List Tri} (hx : WOk p x) (hs : 2 ≤ s) (hsp : s ≤ p) :
    ((bestUpto (fun h : Nat => runN (x :: r) h s) (p - s + 1).toNat : Nat) : Int) ≤ p - s ∧ heldB (bestUpto (fun h : Nat => runN (x :: r) h s) (p - s + 1).toNat : Nat) s x.b = true := by
  obtain ⟨h, h1, h2⟩ := place_ex (p := p) (s := s) hx.b0 hx.b1 hs hsp
  have hlt := bestUpto_lt (fun h : Nat => runN (x :: r) h s) (p - s + 1).toNat (by omega)
  have hmax := bestUpto_max (fun h : Nat => runN (x :: r) h s) (p - s + 1).toNat h (by omega)
  have hpos : 0 < runN (x :: r) h s := by unfold runN; rw [List.takeWhile_cons, if_pos h2]; simp
  refine ⟨by omega, ?_⟩
  cases hh : heldB (bestUpto (fun h : Nat => runN (x :: r) h s) (p - s + 1).toNat : Nat) s x.b
  · exfalso
    generalize bestUpto (fun h : Nat => runN (x :: r) h s) (p - s + 1).toNat = b at hh hmax
    have : runN (x :: r) (b : Int) s = 0 := by unfold runN; rw [List.takeWhile_cons, if_neg (by simp [hh])]; rfl
    omega
  · rfl

theorem rst_ok {p s : Int} (hs : 2 ≤ s) (hsp : s ≤ p) : ∀ (l : List Tri) (h n : Int), (∀ x ∈ l, WOk p x) → n + l.length ≤ 400 → okS p s h n (rst p s l h)
  | [], _, _, _, _ => trivial
  | x :: r, h, n, hw, hn => by
    have hx := hw x (by simp)
    have hr : ∀ y ∈ r, WOk p y := fun y hy => hw y (by simp [hy])
    simp only [List.length_cons] at hn
    unfold rst
    split
    · rename_i hh
      unfold okS
      refine ⟨fine_step hx hh (by omega), ?_⟩
      rw [if_neg (stepOf_a x)]
      exact rst_ok hs hsp r h (n + 1) hr (by omega)
    · obtain ⟨h1, h2⟩ := best_held (r := r) hx hs hsp
      unfold okS
      refine ⟨fine_reach (by omega) h1 hs, ?_⟩
      rw [if_pos rfl]
      unfold okS
      refine ⟨fine_step hx h2 (by omega), ?_⟩
      rw [if_neg (stepOf_a x)]
      exact rst_ok hs hsp r _ (n + 1) hr (by omega)
theorem rst_works {p s : Int} : ∀ (l : List Tri) (h : Int), (∀ x ∈ l, WOk p x) → worksOf (rst p s l h) = l
  | [], _, _ => rfl
  | x :: r, h, hw => by
    have hx := hw x (by simp)
    have hr : ∀ y ∈ r, WOk p y := fun y hy => hw y (by simp [hy])
    unfold rst
    split
    · rw [worksOf_cons2 (stepOf_a x), workOf_stepOf hx, rst_works r _ hr]
    · rw [worksOf_cons1 rfl, worksOf_cons2 (stepOf_a x), workOf_stepOf hx, rst_works r _ hr]

theorem rbest_held {l : List Tri} {P S : Nat} {M : List Nat} (hS : 2 ≤ S) (hSP : S ≤ P) (hP : P ≤ 24) (hb : ∀ (k : Nat) (hk : k < l.length), 0 ≤ l[k].b ∧ l[k].b ≤ (P : Int) - 2) (hM : ∀ x ∈ M, x < l.length) (hnd : M.Nodup) (hlt : M.length < l.length) :
    rbest l P S M ≤ P - S ∧ 0 < (mseq l (rbest l P S M : Nat) S l.length M).length := by
  have hb0 : ∀ (k : Nat) (hk : k < l.length), 0 ≤ l[k].b := fun k hk => (hb k hk).1
  have hbest := rbest_eq (N := 4 * l.length + S) (M := M) hS hSP hP hb0 (Nat.le_refl _) hM hnd
  have hbl := bestUpto_lt (offN S (4 * l.length + S) (rowsOf l M)) (P - S + 1) (by omega)
  rw [hbest] at hbl
  have hmq := offN_mseq (N := 4 * l.length + S) (M := M) (h := rbest l P S M) (by omega) hb0 (Nat.le_refl _) hM hnd
  have hpos := much_pos (p := P) (s := S) (N := 4 * l.length + S) hlt hb hS hSP (by omega)
  rw [hbest] at hpos
  unfold offN at hpos
  rw [hmq] at hpos
  exact ⟨by omega, hpos⟩
theorem mseq_pos {l : List Tri} {h s : Int} {k : Nat} {M : List Nat} (hp : 0 < (mseq l h s k M).length) : 0 ≤ nextUpto l M h s l.length := by
  cases k with
  | zero => simp [mseq] at hp
  | succ k =>
    unfold mseq at hp
    split at hp
    · assumption
    · simp at hp

/-- the order in which the quick instructions make the works -/
def rqo (l : List Tri) (P S : Nat) : Nat → List Nat → Int → List Nat
  | 0, _, _ => []
  | k + 1, M, h => if M.length < l.length then
      if 0 ≤ nextUpto l M h S l.length then (nextUpto l M h S l.length).toNat :: rqo l P S k (M ++ [(nextUpto l M h S l.length).toNat]) h
      else rqo l P S k M (rbest l P S M)
    else []
theorem stepAt_x {l : List Tri} {i : Nat} (hi : i < l.length) : stepAt l i = stepOf (xAt l i) := by
  rw [stepAt_of hi, xAt_of hi]

theorem rq_ok {l : List Tri} {P S : Nat} (hS : 2 ≤ S) (hSP : S ≤ P) (hP : P ≤ 24) (hw : ∀ x ∈ l, WOk P x) (h400 : l.length ≤ 400) :
    ∀ (k : Nat) (M : List Nat) (h : Int), M.Nodup → (∀ x ∈ M, x < l.length) → okS P S h M.length (rq l P S k M h) ∧ worksOf (rq l P S k M h) = (rqo l P S k M h).map (xAt l)
  | 0, _, _, _, _ => ⟨trivial, rfl⟩
  | k + 1, M, h, hnd, hM => by
    have hb : ∀ (k : Nat) (hk : k < l.length), 0 ≤ l[k].b ∧ l[k].b ≤ (P : Int) - 2 := fun k hk => ⟨(hw _ (List.getElem_mem hk)).b0, (hw _ (List.getElem_mem hk)).b1⟩
    unfold rq rqo
    by_cases hl : M.length < l.length
    · rw [if_pos hl, if_pos hl]
      by_cases hn : 0 ≤ nextUpto l M h S l.length
      · rw [if_pos hn, if_pos hn]
        obtain ⟨i, e, hi, hc⟩ := next_can hn
        obtain ⟨h1, h2⟩ := snoc_ok hnd hM hi (can_new hc)
        rw [e]
        simp only [Int.toNat_natCast]
        have ih := rq_ok hS hSP hP hw h400 k (M ++ [i]) h h1 h2
        rw [stepAt_x hi]
        have hx : WOk P (xAt l i) := by rw [xAt_of hi]; exact hw _ (List.getElem_mem hi)
        unfold canB at hc
        simp only [Bool.and_eq_true] at hc
        refine ⟨?_, ?_⟩
        · unfold okS
          refine ⟨fine_step hx hc.1 (by omega), ?_⟩
          rw [if_neg (stepOf_a _)]
          have := ih.1
          simpa using this
        · rw [worksOf_cons2 (stepOf_a _), workOf_stepOf hx, ih.2]
          rfl
      · rw [if_neg hn, if_neg hn]
        have hr := rbest_held hS hSP hP hb hM hnd hl
        have ih := rq_ok hS hSP hP hw h400 k M (rbest l P S M : Nat) hnd hM
        refine ⟨?_, ?_⟩
        · unfold okS
          refine ⟨fine_reach (by omega) (by have := hr.1; omega) (by omega), ?_⟩
          rw [if_pos rfl]
          exact ih.1
        · rw [worksOf_cons1 rfl, ih.2]
    · rw [if_neg hl, if_neg hl]
      exact ⟨trivial, rfl⟩

/-- an order in which all works come, each behind those that it must come behind -/
def LinExt (l : List Tri) : List Nat → List Nat → Prop
  | _, [] => True
  | M, i :: r => i < l.length ∧ rdyB l M i = true ∧ LinExt l (M ++ [i]) r
theorem rqo_lin {l : List Tri} {P S : Nat} (hS : 2 ≤ S) (hSP : S ≤ P) (hP : P ≤ 24) (hb : ∀ (k : Nat) (hk : k < l.length), 0 ≤ l[k].b ∧ l[k].b ≤ (P : Int) - 2) :
    ∀ (k : Nat) (M : List Nat) (h : Int), M.Nodup → (∀ x ∈ M, x < l.length) → LinExt l M (rqo l P S k M h) ∧ (2 * l.length + (if 0 ≤ nextUpto l M h S l.length then 0 else 1) ≤ k + 2 * M.length ∨ l.length ≤ M.length → (rqo l P S k M h).length + M.length = l.length)
  | 0, M, h, hnd, hM => ⟨trivial, fun hk => by
      have := len_of_nodup _ _ hnd hM
      simp only [rqo, List.length_nil]
      split at hk <;> omega⟩
  | k + 1, M, h, hnd, hM => by
    have hlen := len_of_nodup _ _ hnd hM
    unfold rqo
    by_cases hl : M.length < l.length
    · rw [if_pos hl]
      by_cases hn : 0 ≤ nextUpto l M h S l.length
      · rw [if_pos hn, if_pos hn]
        obtain ⟨i, e, hi, hc⟩ := next_can hn
        obtain ⟨h1, h2⟩ := snoc_ok hnd hM hi (can_new hc)
        rw [e]
        simp only [Int.toNat_natCast]
        have ih := rqo_lin hS hSP hP hb k (M ++ [i]) h h1 h2
        unfold canB at hc
        simp only [Bool.and_eq_true] at hc
        refine ⟨⟨hi, hc.2, ih.1⟩, fun hk => ?_⟩
        have := ih.2 (by
          simp only [List.length_append, List.length_singleton]
          left
          split <;> omega)
        have e1 : (M ++ [i]).length = M.length + 1 := by simp
        rw [e1] at this
        rw [List.length_cons]
        omega
      · rw [if_neg hn, if_neg hn]
        have hr := rbest_held hS hSP hP hb hM hnd hl
        have hm := mseq_pos hr.2
        have ih := rqo_lin hS hSP hP hb k M (rbest l P S M : Nat) hnd hM
        rw [if_pos hm] at ih
        exact ⟨ih.1, fun hk => ih.2 (by omega)⟩
    · rw [if_neg hl]
      exact ⟨trivial, fun _ => by simp; omega⟩
end Go.Proofs.Ytogkgoabonbkkaa
