/- Plain: the fewest reaches in an order. -/
import Derived.Test.YtogkgoabonbkkaaMakeM
set_option linter.unusedSimpArgs false
set_option linter.unusedVariables false
namespace Go.Proofs.Ytogkgoabonbkkaa
open Go Go.RowKit Tor

section
variable {p s : Int}
theorem runN_held {x : Tri} {r : List Tri} {h s : Int} (hh : heldB h s x.b = true) : runN (x :: r) h s = runN r h s + 1 := by
  unfold runN; rw [List.takeWhile_cons, if_pos hh]; rfl
theorem runN_not {x : Tri} {r : List Tri} {h s : Int} (hh : heldB h s x.b = false) : runN (x :: r) h s = 0 := by
  unfold runN; rw [List.takeWhile_cons, if_neg (by simp [hh])]; rfl
theorem runN_nil {h s : Int} : runN [] h s = 0 := rfl
theorem held_neg {s b : Int} : heldB (-1) s b = false := by
  cases h : heldB (-1) s b
  · rfl
  · rw [held_iff] at h; omega
theorem runN_neg {l : List Tri} {s : Int} : runN l (-1) s = 0 := by
  cases l with
  | nil => rfl
  | cons x r => exact runN_not held_neg

theorem reachesN_step1 (x : Tri) (l : List Tri) (h : x.a ≠ 1) : reachesN (x :: l) = reachesN l := by simp [reachesN, h]
theorem reachesN_reach (b : Int) (l : List Tri) : reachesN (⟨1, b, .empty⟩ :: l) = reachesN l + 1 := by simp [reachesN]
theorem reachesN_one {x : Tri} (l : List Tri) (h : x.a = 1) : reachesN (x :: l) = reachesN l + 1 := by simp [reachesN, h]

/-- how many reaches there are in the order of a list -/
def C (p s : Int) (l : List Tri) : Nat := reachesN (rst p s l (-1))
/-- as many as one reach serves for -/
def mx (p s : Int) (l : List Tri) : Nat := runN l (bestUpto (fun h : Nat => runN l h s) (p - s + 1).toNat : Nat) s
theorem mx_ge {l : List Tri} {h : Int} (h0 : 0 ≤ h) (h1 : h ≤ p - s) : runN l h s ≤ mx p s l := by
  have := bestUpto_max (fun h : Nat => runN l h s) (p - s + 1).toNat h.toNat (by omega)
  rw [Int.toNat_of_nonneg h0] at this
  exact this
theorem mx_at (l : List Tri) (hsp : s ≤ p) : ∃ b : Int, 0 ≤ b ∧ b ≤ p - s ∧ runN l b s = mx p s l := by
  have := bestUpto_lt (fun h : Nat => runN l h s) (p - s + 1).toNat (by omega)
  exact ⟨_, Int.natCast_nonneg _, by omega, rfl⟩
theorem mx_pos {x : Tri} {r : List Tri} (hx : WOk p x) (hs : 2 ≤ s) (hsp : s ≤ p) : 1 ≤ mx p s (x :: r) := by
  obtain ⟨h1, h2⟩ := best_held (r := r) hx hs hsp
  unfold mx
  rw [runN_held h2]
  omega

theorem rst_C : ∀ (l : List Tri) (h : Int), reachesN (rst p s l h) = C p s (l.drop (runN l h s))
  | [], h => rfl
  | x :: r, h => by
    cases hh : heldB h s x.b
    · rw [runN_not hh, List.drop_zero]
      unfold C rst
      rw [if_neg (by simp [hh]), if_neg (by simp [held_neg])]
    · rw [runN_held hh, List.drop_succ_cons, ← rst_C r h]
      conv => lhs; unfold rst
      rw [if_pos hh, reachesN_step1 _ _ (stepOf_a x)]
theorem C_nil : C p s [] = 0 := rfl
theorem C_cons {x : Tri} {r : List Tri} (hx : WOk p x) (hs : 2 ≤ s) (hsp : s ≤ p) : C p s (x :: r) = 1 + C p s ((x :: r).drop (mx p s (x :: r))) := by
  obtain ⟨h1, h2⟩ := best_held (r := r) hx hs hsp
  have e : mx p s (x :: r) = runN r (bestUpto (fun h : Nat => runN (x :: r) h s) (p - s + 1).toNat : Nat) s + 1 := by unfold mx; rw [runN_held h2]
  rw [e, List.drop_succ_cons, ← rst_C]
  conv => lhs; unfold C rst
  rw [if_neg (by simp [held_neg]), reachesN_reach, reachesN_step1 _ _ (stepOf_a x)]
  omega

theorem C_drop (hs : 2 ≤ s) (hsp : s ≤ p) : ∀ (n : Nat) (l : List Tri), l.length ≤ n → (∀ x ∈ l, WOk p x) → ∀ j, C p s (l.drop j) ≤ C p s l
  | 0, l, hl, _, j => by
    have : l = [] := List.eq_nil_of_length_eq_zero (by omega)
    subst this
    simp
  | n + 1, [], _, _, j => by simp
  | n + 1, x :: r, hl, hw, j => by
    simp only [List.length_cons] at hl
    have hx := hw x (by simp)
    have hr : ∀ y ∈ r, WOk p y := fun y hy => hw y (by simp [hy])
    cases j with
    | zero => simp
    | succ j =>
      rw [List.drop_succ_cons]
      refine Nat.le_trans (C_drop hs hsp n r (by omega) hr j) ?_
      rw [C_cons hx hs hsp]
      have hm := mx_pos (r := r) hx hs hsp
      obtain ⟨m, hm'⟩ : ∃ m, mx p s (x :: r) = m + 1 := ⟨mx p s (x :: r) - 1, by omega⟩
      rw [hm', List.drop_succ_cons]
      cases r with
      | nil => simp [C_nil]
      | cons y r' =>
        have hge : m ≤ mx p s (y :: r') := by
          obtain ⟨b, b0, b1, b2⟩ := mx_at (s := s) (x :: y :: r') hsp
          have h1 := mx_ge (l := y :: r') (p := p) (s := s) b0 b1
          cases hh : heldB b s x.b
          · rw [runN_not hh] at b2; omega
          · rw [runN_held hh] at b2; omega
        rw [C_cons (hr y (by simp)) hs hsp]
        have := C_drop hs hsp n ((y :: r').drop m) (by rw [List.length_drop]; omega) (fun z hz => hr z (List.mem_of_mem_drop hz)) (mx p s (y :: r') - m)
        rw [List.drop_drop, show m + (mx p s (y :: r') - m) = mx p s (y :: r') by omega] at this
        omega
theorem C_mono {l : List Tri} (hs : 2 ≤ s) (hsp : s ≤ p) (hw : ∀ x ∈ l, WOk p x) (j : Nat) : C p s (l.drop j) ≤ C p s l := C_drop hs hsp _ l (Nat.le_refl _) hw j
theorem C_mono2 {l : List Tri} (hs : 2 ≤ s) (hsp : s ≤ p) (hw : ∀ x ∈ l, WOk p x) {i j : Nat} (h : i ≤ j) : C p s (l.drop j) ≤ C p s (l.drop i) := by
  have := C_mono (l := l.drop i) hs hsp (fun x hx => hw x (List.mem_of_mem_drop hx)) (j - i)
  rw [List.drop_drop, show i + (j - i) = j by omega] at this
  exact this
theorem C_le {l : List Tri} (hs : 2 ≤ s) (hsp : s ≤ p) (hw : ∀ x ∈ l, WOk p x) {b : Int} (b0 : 0 ≤ b) (b1 : b ≤ p - s) : C p s l ≤ 1 + C p s (l.drop (runN l b s)) := by
  cases l with
  | nil => simp [C_nil]
  | cons x r =>
    rw [C_cons (hw x (by simp)) hs hsp]
    have := C_mono2 (l := x :: r) hs hsp hw (mx_ge (l := x :: r) b0 b1)
    omega

theorem workOf_b (x : Tri) : (workOf x).b = x.b := by unfold workOf; split <;> rfl
theorem workOf_ok {h n : Int} {x : Tri} (hf : Fine p s h n x) (ha : x.a ≠ 1) : WOk p (workOf x) := by
  refine ⟨?_, by rw [workOf_b]; exact hf.b0, by rw [workOf_b]; exact hf.b1, fun e => ?_, ?_⟩
  · unfold workOf; split <;> simp
  · unfold workOf at e ⊢
    split
    · rfl
    · rename_i h3; rw [if_neg h3] at e; simp at e
  · unfold workOf
    split
    · rfl
    · exact hf.w
theorem okS_works : ∀ (g : List Tri) (h n : Int), okS p s h n g → ∀ x ∈ worksOf g, WOk p x
  | [], _, _, _, x, hx => by simp [worksOf] at hx
  | y :: r, h, n, hok, x, hx => by
    unfold okS at hok
    by_cases ha : y.a = 1
    · rw [if_pos ha] at hok
      rw [worksOf_cons1 ha] at hx
      exact okS_works r _ _ hok.2 x hx
    · rw [if_neg ha] at hok
      rw [worksOf_cons2 ha, List.mem_cons] at hx
      rcases hx with rfl | hx
      · exact workOf_ok hok.1 ha
      · exact okS_works r _ _ hok.2 x hx
theorem okS_opt (hs : 2 ≤ s) (hsp : s ≤ p) : ∀ (g : List Tri) (h n : Int), okS p s h n g → C p s ((worksOf g).drop (runN (worksOf g) h s)) ≤ reachesN g
  | [], _, _, _ => by simp [worksOf, C_nil]
  | y :: r, h, n, hok => by
    have hw := okS_works (y :: r) h n hok
    unfold okS at hok
    by_cases ha : y.a = 1
    · rw [if_pos ha] at hok
      rw [worksOf_cons1 ha] at hw ⊢
      rw [reachesN_one _ ha]
      have ih := okS_opt hs hsp r _ _ hok.2
      have h1 := C_mono hs hsp hw (runN (worksOf r) h s)
      have h2 := C_le hs hsp hw hok.1.b0 (hok.1.r ha)
      omega
    · rw [if_neg ha] at hok
      have ih := okS_opt hs hsp r _ _ hok.2
      rw [worksOf_cons2 ha, runN_held (by rw [workOf_b]; exact hok.1.held ha), List.drop_succ_cons, reachesN_step1 _ _ ha]
      exact ih
/-- no instructions that make the works in their order have fewer reaches -/
theorem C_opt (hs : 2 ≤ s) (hsp : s ≤ p) {g : List Tri} {n : Int} (hok : okS p s (-1) n g) : C p s (worksOf g) ≤ reachesN g := by
  have := okS_opt hs hsp g _ _ hok
  rw [runN_neg, List.drop_zero] at this
  exact this

/-! ### windows -/
def costW (p s : Int) : List Tri → Int → Int → Int
  | [], _, _ => 0
  | x :: r, lo, hi => nn (joinB p s x lo hi) + costW p s r (nlo s x lo (joinB p s x lo hi)) (nhi p s x hi (joinB p s x lo hi))
def IsMx (s : Int) (l : List Tri) (lo hi : Int) (k : Nat) : Prop := (∃ h : Int, lo ≤ h ∧ h ≤ hi ∧ runN l h s = k) ∧ ∀ h : Int, lo ≤ h → h ≤ hi → runN l h s ≤ k

theorem win_held {x : Tri} {h : Int} (h0 : 0 ≤ h) (h1 : h ≤ p - s) : heldB h s x.b = true ↔ wlo s x ≤ h ∧ h ≤ whi p s x := by
  rw [held_iff]; unfold wlo whi; omega
theorem win_bd {x : Tri} (hx : WOk p x) (hs : 2 ≤ s) (hsp : s ≤ p) : 0 ≤ wlo s x ∧ whi p s x ≤ p - s ∧ wlo s x ≤ whi p s x := by
  have := hx.b0; have := hx.b1; unfold wlo whi; omega

theorem isMx_fresh {x : Tri} {r : List Tri} (hx : WOk p x) (hs : 2 ≤ s) (hsp : s ≤ p) : ∃ m, mx p s (x :: r) = m + 1 ∧ IsMx s r (wlo s x) (whi p s x) m := by
  have hm := mx_pos (r := r) hx hs hsp
  obtain ⟨m, hm'⟩ : ∃ m, mx p s (x :: r) = m + 1 := ⟨mx p s (x :: r) - 1, by omega⟩
  obtain ⟨w0, w1, w2⟩ := win_bd hx hs hsp
  refine ⟨m, hm', ?_, fun h h0 h1 => ?_⟩
  · obtain ⟨b, b0, b1, b2⟩ := mx_at (s := s) (x :: r) hsp
    have hh : heldB b s x.b = true := by
      cases hh : heldB b s x.b
      · rw [runN_not hh] at b2; omega
      · rfl
    rw [runN_held hh] at b2
    have := (win_held b0 b1).1 hh
    exact ⟨b, this.1, this.2, by omega⟩
  · have hh := (win_held (p := p) (s := s) (x := x) (h := h) (by omega) (by omega)).2 ⟨h0, h1⟩
    have := mx_ge (l := x :: r) (p := p) (s := s) (h := h) (by omega) (by omega)
    rw [runN_held hh] at this
    omega

theorem costW_eq (hs : 2 ≤ s) (hsp : s ≤ p) : ∀ (l : List Tri) (lo hi : Int) (k : Nat), (∀ x ∈ l, WOk p x) → 0 ≤ lo → hi ≤ p - s → lo ≤ hi → IsMx s l lo hi k → costW p s l lo hi = C p s (l.drop k)
  | [], lo, hi, k, _, _, _, _, _ => by simp [costW, C_nil]
  | x :: r, lo, hi, k, hw, h0, h1, h2, ⟨⟨h, g0, g1, g2⟩, hup⟩ => by
    have hx := hw x (by simp)
    have hr : ∀ y ∈ r, WOk p y := fun y hy => hw y (by simp [hy])
    obtain ⟨w0, w1, w2⟩ := win_bd hx hs hsp
    unfold costW
    cases hj : joinB p s x lo hi
    · have hk : k = 0 := by
        rw [← g2]
        refine runN_not ?_
        cases hh : heldB h s x.b
        · rfl
        · have := (win_held (p := p) (by omega) (by omega)).1 hh
          unfold joinB at hj
          simp only [Bool.and_eq_false_iff, decide_eq_false_iff_not] at hj
          omega
      obtain ⟨m, hm, hmx⟩ := isMx_fresh (r := r) hx hs hsp
      subst hk
      rw [List.drop_zero, C_cons hx hs hsp, hm, List.drop_succ_cons]
      have := costW_eq hs hsp r (wlo s x) (whi p s x) m hr w0 w1 w2 hmx
      simp only [nn, nlo, nhi, Bool.false_eq_true, if_false]
      rw [this]
      omega
    · have hj' := hj
      unfold joinB at hj'
      simp only [Bool.and_eq_true, decide_eq_true_eq] at hj'
      have hh : heldB (max (wlo s x) lo) s x.b = true := (win_held (p := p) (by omega) (by omega)).2 (by omega)
      have hk1 : 1 ≤ k := by
        have := hup (max (wlo s x) lo) (by omega) (by omega)
        rw [runN_held hh] at this
        omega
      obtain ⟨k', rfl⟩ : ∃ k', k = k' + 1 := ⟨k - 1, by omega⟩
      have hheld : heldB h s x.b = true := by
        cases hh : heldB h s x.b
        · rw [runN_not hh] at g2; omega
        · rfl
      rw [runN_held hheld] at g2
      have hwin := (win_held (p := p) (by omega) (by omega)).1 hheld
      rw [List.drop_succ_cons]
      simp only [nn, nlo, nhi, if_true]
      rw [costW_eq hs hsp r (max (wlo s x) lo) (min (whi p s x) hi) k' hr (by omega) (by omega) (by omega) ⟨⟨h, by omega, by omega, by omega⟩, fun q q0 q1 => ?_⟩]
      · omega
      · have hq := (win_held (p := p) (s := s) (x := x) (h := q) (by omega) (by omega)).2 (by omega)
        have := hup q (by omega) (by omega)
        rw [runN_held hq] at this
        omega
theorem costW_C {l : List Tri} (hs : 2 ≤ s) (hsp : s ≤ p) (hw : ∀ x ∈ l, WOk p x) : costW p s l 1 0 = C p s l := by
  cases l with
  | nil => simp [costW, C_nil]
  | cons x r =>
    have hx := hw x (by simp)
    have hr : ∀ y ∈ r, WOk p y := fun y hy => hw y (by simp [hy])
    obtain ⟨w0, w1, w2⟩ := win_bd hx hs hsp
    obtain ⟨m, hm, hmx⟩ := isMx_fresh (r := r) hx hs hsp
    unfold costW
    have hj : joinB p s x 1 0 = false := by unfold joinB; simp
    rw [hj, C_cons hx hs hsp, hm, List.drop_succ_cons]
    simp only [nn, nlo, nhi, Bool.false_eq_true, if_false]
    rw [costW_eq hs hsp r (wlo s x) (whi p s x) m hr w0 w1 w2 hmx]
    omega
end
end Go.Proofs.Ytogkgoabonbkkaa
