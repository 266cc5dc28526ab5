/- torchonref15: shaped, Do, Work; compile.shaped. -/
import Derived.Test.YtogkgoabonbkkaaLaw
set_option linter.unusedSimpArgs false
set_option linter.unusedVariables false
namespace Go.Proofs.Ytogkgoabonbkkaa
open Go Go.RowKit Tor

/-- an Op, and a Word only if it may -/
def shapedB (x : Tri) : Bool := decide (x.a = 2) || (decide (x.a = 1) || decide (x.a = 3)) && decide (x.s.size = 0)
theorem bempt (s : ByteArray) : s.toList.isEmpty = decide (s.size = 0) := by
  have h := bemp s
  by_cases e : s.size = 0
  · simp only [e, ne_eq, not_true_eq_false, decide_false, Bool.not_eq_false'] at h
    rw [h]; simp [e]
  · simp only [e, ne_eq, not_false_eq_true, decide_true, Bool.not_eq_true'] at h
    rw [h]; simp [e]

theorem shaped_any (x : Tri) (w : World) :
    Calls Try.prog 78 #[.agg #[.int .i64 x.a, .int .i64 x.b, .string x.s]] w (Ret (.bool (shapedB x)) w) := by
  rcases (show x.a = 2 ∨ x.a = 1 ∨ x.a = 3 ∨ (x.a ≠ 2 ∧ x.a ≠ 1 ∧ x.a ≠ 3) from by omega) with h | h | h | ⟨h, h', h''⟩
  all_goals
    have g2 : (x.a == 2) = decide (x.a = 2) := rfl
    have g1 : (x.a == 1) = decide (x.a = 1) := rfl
    have g3 : (x.a == 3) = decide (x.a = 3) := rfl
    simp only [h, decide_true, decide_false, *] at g1 g2 g3
    have e1 : Hid (shapedB x = shapedB x) := rfl
    rw [Hid] at e1
    have HH : Hid (shapedB x = (decide (x.a = 2) || (decide (x.a = 1) || decide (x.a = 3)) && x.s.toList.isEmpty)) := by rw [Hid, bempt]; rfl
    clear e1
    go_enter Try.func78, Try.ntmps78
    go_wp2_with fail
    go_ret
    exact Ret.bool (by rw [HH.out]; simp [*]) ((Below.refl _ _).alloc (Nat.le_refl _) _)
theorem cshaped_any (x : Tri) (w : World) :
    Calls Try.prog 65 #[.agg #[.int .i64 x.a, .int .i64 x.b, .string x.s]] w (Ret (.bool (shapedB x)) w) := by
  rcases (show x.a = 2 ∨ x.a = 1 ∨ x.a = 3 ∨ (x.a ≠ 2 ∧ x.a ≠ 1 ∧ x.a ≠ 3) from by omega) with h | h | h | ⟨h, h', h''⟩
  all_goals
    have g2 : (x.a == 2) = decide (x.a = 2) := rfl
    have g1 : (x.a == 1) = decide (x.a = 1) := rfl
    have g3 : (x.a == 3) = decide (x.a = 3) := rfl
    simp only [h, decide_true, decide_false, *] at g1 g2 g3
    have HH : Hid (shapedB x = (decide (x.a = 2) || (decide (x.a = 1) || decide (x.a = 3)) && x.s.toList.isEmpty)) := by rw [Hid, bempt]; rfl
    go_enter Try.func65, Try.ntmps65
    go_wp2_with fail
    go_ret
    exact Ret.bool (by rw [HH.out]; simp [*]) ((Below.refl _ _).alloc (Nat.le_refl _) _)

/-- the work of a step -/
def workOf (x : Tri) : Tri := if x.a = 3 then ⟨2, x.b, .empty⟩ else ⟨1, x.b, x.s⟩
theorem work_any (x : Tri) (w : World) :
    Calls Try.prog 58 #[.agg #[.int .i64 x.a, .int .i64 x.b, .string x.s]] w (Ret (.agg #[.int .i64 (workOf x).a, .int .i64 (workOf x).b, .string (workOf x).s]) w) := by
  by_cases h : x.a = 3
  · have h' : (x.a == 3) = true := by simp [h]
    have H := Lib.hid h
    clear h
    go_enter Try.func58, Try.ntmps58
    go_wp2
    refine bodyPost_ret (v := _) (by simp [results, Try.results58, go_sem]; rfl) rfl (Ret.val ?_ (by (repeat' first | exact Below.refl _ _ | apply Below.drew | (refine Below.setCells ?_ _ _ ?_) | (refine Below.setCell ?_ ?_ _) | (refine Below.alloc ?_ ?_ _) | (simp; done) | (simp; omega))))
    simp [workOf, H.out]
    rfl
  · have h' : (x.a == 3) = false := by simp [h]
    have H := Lib.hid h
    clear h
    go_enter Try.func58, Try.ntmps58
    go_wp2
    refine bodyPost_ret (v := _) (by simp [results, Try.results58, go_sem]; rfl) rfl (Ret.val ?_ (by (repeat' first | exact Below.refl _ _ | apply Below.drew | (refine Below.setCells ?_ _ _ ?_) | (refine Below.setCell ?_ ?_ _) | (refine Below.alloc ?_ ?_ _) | (simp; done) | (simp; omega))))
    simp [workOf, H.out]

/-- the error of a step -/
def doE (p s h n : Int) (x : Tri) : Int :=
  if shapedB x = false then 2 else if wordE x.s ≠ 0 then wordE x.s
  else if x.b < 0 ∨ p - 2 < x.b ∨ (x.a = 1 ∧ p - s < x.b) then 7
  else if x.a ≠ 1 ∧ heldB h s x.b = false then 9
  else if x.a ≠ 1 ∧ 400 ≤ n then 3 else 0

theorem doE_sh {p s h n : Int} {x : Tri} (h1 : shapedB x = false) : doE p s h n x = 2 := by unfold doE; rw [if_pos h1]
theorem doE_w {p s h n : Int} {x : Tri} (h1 : shapedB x = true) (h2 : wordE x.s ≠ 0) : doE p s h n x = wordE x.s := by
  unfold doE; rw [if_neg (by simp [h1]), if_pos h2]
theorem doE_r {p s h n : Int} {x : Tri} (h1 : shapedB x = true) (h2 : wordE x.s = 0) (h3 : x.b < 0 ∨ p - 2 < x.b ∨ (x.a = 1 ∧ p - s < x.b)) : doE p s h n x = 7 := by
  unfold doE; rw [if_neg (by simp [h1]), if_neg (by simp [h2]), if_pos h3]
theorem doE_d {p s h n : Int} {x : Tri} (h1 : shapedB x = true) (h2 : wordE x.s = 0) (h3 : ¬ (x.b < 0 ∨ p - 2 < x.b ∨ (x.a = 1 ∧ p - s < x.b))) (h4 : x.a ≠ 1) (h5 : heldB h s x.b = false) : doE p s h n x = 9 := by
  unfold doE; rw [if_neg (by simp [h1]), if_neg (by simp [h2]), if_neg h3, if_pos ⟨h4, h5⟩]
theorem doE_l {p s h n : Int} {x : Tri} (h1 : shapedB x = true) (h2 : wordE x.s = 0) (h3 : ¬ (x.b < 0 ∨ p - 2 < x.b ∨ (x.a = 1 ∧ p - s < x.b))) (h4 : x.a ≠ 1) (h5 : heldB h s x.b = true) (h6 : 400 ≤ n) : doE p s h n x = 3 := by
  unfold doE; rw [if_neg (by simp [h1]), if_neg (by simp [h2]), if_neg h3, if_neg (by simp [h5]), if_pos ⟨h4, h6⟩]
theorem doE_0 {p s h n : Int} {x : Tri} (h1 : shapedB x = true) (h2 : wordE x.s = 0) (h3 : ¬ (x.b < 0 ∨ p - 2 < x.b ∨ (x.a = 1 ∧ p - s < x.b))) (h4 : x.a = 1 ∨ (heldB h s x.b = true ∧ ¬ 400 ≤ n)) : doE p s h n x = 0 := by
  unfold doE
  rw [if_neg (by simp [h1]), if_neg (by simp [h2]), if_neg h3, if_neg ?_, if_neg ?_]
  · rintro ⟨a, b⟩
    rcases h4 with h4 | h4
    · exact a h4
    · exact h4.2 b
  · rintro ⟨a, b⟩
    rcases h4 with h4 | h4
    · exact a h4
    · rw [h4.1] at b; cases b

set_option maxRecDepth 100000 in
set_option maxHeartbeats 1000000 in
theorem do_any (p s h n : Int) (x : Tri) (w : World) (hs : x.s.size ≤ 9223372036854775807) (b1 : 2 ≤ s) (b2 : s ≤ p) (b3 : p ≤ 24) (a1 : -1 ≤ h) (a2 : h ≤ 24) :
    Calls Try.prog 57 #[.int .i64 p, .int .i64 s, .int .i64 h, .int .i64 n, .agg #[.int .i64 x.a, .int .i64 x.b, .string x.s]] w (Ret (.int .i64 (doE p s h n x)) w) := by
  cases hsh : shapedB x
  · obtain ⟨E, hE⟩ : ∃ E, Hid (doE p s h n x = E) := ⟨_, Lib.hid rfl⟩
    have HX := Lib.hid (doE_sh (p := p) (s := s) (h := h) (n := n) hsh)
    have HS := Lib.hid hsh
    clear hsh
    go_enter Try.func57, Try.ntmps57
    go_wp2_with (first | (go_at_call 78; refine (shaped_any x _).mono ?_; rintro e w1 ⟨rfl, hB1⟩; rw [HS.out]; have kX := (Blk.new w 63 #[.int .i64 x.a, .int .i64 x.b, .string x.s]).below' hB1; have c0 := kX.cell 0 (.int .i64 x.a) rfl; have c1 := kX.cell 1 (.int .i64 x.b) rfl; have c2 := kX.cell 2 (.string x.s) rfl; have n1 := kX.lt; have hBw : Below w.heap.size w w1 := Below.trans (b := w.alloc (.cells #[.int .i64 x.a, .int .i64 x.b, .string x.s] 63)) (by (repeat' first | exact Below.refl _ _ | apply Below.drew | (refine Below.setCells ?_ _ _ ?_) | (refine Below.setCell ?_ ?_ _) | (refine Below.alloc ?_ ?_ _) | (simp; done) | (simp; omega))) (hB1.mono (by simp)); have hz1 := hBw.size) | (go_at_call 55; refine (wordRef_any x.s _ hs).mono ?_; rintro e w2 ⟨rfl, hB2⟩; rw [HW.out]; have kX2 := kX.below' hB2; have d0 := kX2.cell 0 (.int .i64 x.a) rfl; have d1 := kX2.cell 1 (.int .i64 x.b) rfl; have d2 := kX2.cell 2 (.string x.s) rfl; have n2 := kX2.lt; have hBw2 := hBw.trans (hB2.mono hz1); have hz2 := hBw2.size) | (go_at_call 69; refine (held_any h s x.b _ (by omega) (by omega) (by omega) (by omega) (by omega) (by omega)).mono ?_; rintro e w3 ⟨rfl, hB3⟩; rw [HD.out]; have kX3 := kX2.below' hB3; have e0 := kX3.cell 0 (.int .i64 x.a) rfl; have n3 := kX3.lt; have hBw3 := hBw2.trans (hB3.mono hz2)))
    go_ret
    exact Ret.int HX.out.symm hBw
  · by_cases hw : wordE x.s = 0
    · have HW := Lib.hid hw
      rcases (show (x.b < 0) ∨ (¬ x.b < 0 ∧ p - 2 < x.b) ∨ (¬ x.b < 0 ∧ ¬ p - 2 < x.b ∧ x.a = 1 ∧ p - s < x.b) ∨ (¬ x.b < 0 ∧ ¬ p - 2 < x.b ∧ x.a = 1 ∧ ¬ p - s < x.b) ∨
        (¬ x.b < 0 ∧ ¬ p - 2 < x.b ∧ x.a ≠ 1 ∧ heldB h s x.b = false) ∨ (¬ x.b < 0 ∧ ¬ p - 2 < x.b ∧ x.a ≠ 1 ∧ heldB h s x.b = true ∧ 400 ≤ n) ∨ (¬ x.b < 0 ∧ ¬ p - 2 < x.b ∧ x.a ≠ 1 ∧ heldB h s x.b = true ∧ ¬ 400 ≤ n) from by
          cases heldB h s x.b <;> simp <;> omega) with h1 | ⟨h1, h2⟩ | ⟨h1, h2, h3, h4⟩ | ⟨h1, h2, h3, h4⟩ | ⟨h1, h2, h3, h4⟩ | ⟨h1, h2, h3, h4, h5⟩ | ⟨h1, h2, h3, h4, h5⟩
      · have HX := Lib.hid (doE_r (p := p) (s := s) (h := h) (n := n) hsh hw (by omega))
        have HS := Lib.hid hsh
        clear hsh hw
        go_enter Try.func57, Try.ntmps57
        go_wp2_with (first | (go_at_call 78; refine (shaped_any x _).mono ?_; rintro e w1 ⟨rfl, hB1⟩; rw [HS.out]; have kX := (Blk.new w 63 #[.int .i64 x.a, .int .i64 x.b, .string x.s]).below' hB1; have c0 := kX.cell 0 (.int .i64 x.a) rfl; have c1 := kX.cell 1 (.int .i64 x.b) rfl; have c2 := kX.cell 2 (.string x.s) rfl; have n1 := kX.lt; have hBw : Below w.heap.size w w1 := Below.trans (b := w.alloc (.cells #[.int .i64 x.a, .int .i64 x.b, .string x.s] 63)) (by (repeat' first | exact Below.refl _ _ | apply Below.drew | (refine Below.setCells ?_ _ _ ?_) | (refine Below.setCell ?_ ?_ _) | (refine Below.alloc ?_ ?_ _) | (simp; done) | (simp; omega))) (hB1.mono (by simp)); have hz1 := hBw.size) | (go_at_call 55; refine (wordRef_any x.s _ hs).mono ?_; rintro e w2 ⟨rfl, hB2⟩; rw [HW.out]; have kX2 := kX.below' hB2; have d0 := kX2.cell 0 (.int .i64 x.a) rfl; have d1 := kX2.cell 1 (.int .i64 x.b) rfl; have d2 := kX2.cell 2 (.string x.s) rfl; have n2 := kX2.lt; have hBw2 := hBw.trans (hB2.mono hz1); have hz2 := hBw2.size) | (go_at_call 69; refine (held_any h s x.b _ (by omega) (by omega) (by omega) (by omega) (by omega) (by omega)).mono ?_; rintro e w3 ⟨rfl, hB3⟩; rw [HD.out]; have kX3 := kX2.below' hB3; have e0 := kX3.cell 0 (.int .i64 x.a) rfl; have n3 := kX3.lt; have hBw3 := hBw2.trans (hB3.mono hz2)))
        go_ret
        exact Ret.int HX.out.symm hBw2
      · have HX := Lib.hid (doE_r (p := p) (s := s) (h := h) (n := n) hsh hw (by omega))
        have HS := Lib.hid hsh
        clear hsh hw
        go_enter Try.func57, Try.ntmps57
        go_wp2_with (first | (go_at_call 78; refine (shaped_any x _).mono ?_; rintro e w1 ⟨rfl, hB1⟩; rw [HS.out]; have kX := (Blk.new w 63 #[.int .i64 x.a, .int .i64 x.b, .string x.s]).below' hB1; have c0 := kX.cell 0 (.int .i64 x.a) rfl; have c1 := kX.cell 1 (.int .i64 x.b) rfl; have c2 := kX.cell 2 (.string x.s) rfl; have n1 := kX.lt; have hBw : Below w.heap.size w w1 := Below.trans (b := w.alloc (.cells #[.int .i64 x.a, .int .i64 x.b, .string x.s] 63)) (by (repeat' first | exact Below.refl _ _ | apply Below.drew | (refine Below.setCells ?_ _ _ ?_) | (refine Below.setCell ?_ ?_ _) | (refine Below.alloc ?_ ?_ _) | (simp; done) | (simp; omega))) (hB1.mono (by simp)); have hz1 := hBw.size) | (go_at_call 55; refine (wordRef_any x.s _ hs).mono ?_; rintro e w2 ⟨rfl, hB2⟩; rw [HW.out]; have kX2 := kX.below' hB2; have d0 := kX2.cell 0 (.int .i64 x.a) rfl; have d1 := kX2.cell 1 (.int .i64 x.b) rfl; have d2 := kX2.cell 2 (.string x.s) rfl; have n2 := kX2.lt; have hBw2 := hBw.trans (hB2.mono hz1); have hz2 := hBw2.size) | (go_at_call 69; refine (held_any h s x.b _ (by omega) (by omega) (by omega) (by omega) (by omega) (by omega)).mono ?_; rintro e w3 ⟨rfl, hB3⟩; rw [HD.out]; have kX3 := kX2.below' hB3; have e0 := kX3.cell 0 (.int .i64 x.a) rfl; have n3 := kX3.lt; have hBw3 := hBw2.trans (hB3.mono hz2)))
        go_ret
        exact Ret.int HX.out.symm hBw2
      · have HX := Lib.hid (doE_r (p := p) (s := s) (h := h) (n := n) hsh hw (by omega))
        have HS := Lib.hid hsh
        have t3 : (x.a == 1) = true := by simp [h3]
        clear hsh hw h3
        go_enter Try.func57, Try.ntmps57
        go_wp2_with (first | (go_at_call 78; refine (shaped_any x _).mono ?_; rintro e w1 ⟨rfl, hB1⟩; rw [HS.out]; have kX := (Blk.new w 63 #[.int .i64 x.a, .int .i64 x.b, .string x.s]).below' hB1; have c0 := kX.cell 0 (.int .i64 x.a) rfl; have c1 := kX.cell 1 (.int .i64 x.b) rfl; have c2 := kX.cell 2 (.string x.s) rfl; have n1 := kX.lt; have hBw : Below w.heap.size w w1 := Below.trans (b := w.alloc (.cells #[.int .i64 x.a, .int .i64 x.b, .string x.s] 63)) (by (repeat' first | exact Below.refl _ _ | apply Below.drew | (refine Below.setCells ?_ _ _ ?_) | (refine Below.setCell ?_ ?_ _) | (refine Below.alloc ?_ ?_ _) | (simp; done) | (simp; omega))) (hB1.mono (by simp)); have hz1 := hBw.size) | (go_at_call 55; refine (wordRef_any x.s _ hs).mono ?_; rintro e w2 ⟨rfl, hB2⟩; rw [HW.out]; have kX2 := kX.below' hB2; have d0 := kX2.cell 0 (.int .i64 x.a) rfl; have d1 := kX2.cell 1 (.int .i64 x.b) rfl; have d2 := kX2.cell 2 (.string x.s) rfl; have n2 := kX2.lt; have hBw2 := hBw.trans (hB2.mono hz1); have hz2 := hBw2.size) | (go_at_call 69; refine (held_any h s x.b _ (by omega) (by omega) (by omega) (by omega) (by omega) (by omega)).mono ?_; rintro e w3 ⟨rfl, hB3⟩; rw [HD.out]; have kX3 := kX2.below' hB3; have e0 := kX3.cell 0 (.int .i64 x.a) rfl; have n3 := kX3.lt; have hBw3 := hBw2.trans (hB3.mono hz2)))
        go_ret
        exact Ret.int HX.out.symm hBw2
      · have HX := Lib.hid (doE_0 (p := p) (s := s) (h := h) (n := n) hsh hw (by omega) (Or.inl h3))
        have HS := Lib.hid hsh
        have t3 : (x.a == 1) = true := by simp [h3]
        have t4 : (x.a != 1) = false := by simp [h3]
        clear hsh hw h3
        go_enter Try.func57, Try.ntmps57
        go_wp2_with (first | (go_at_call 78; refine (shaped_any x _).mono ?_; rintro e w1 ⟨rfl, hB1⟩; rw [HS.out]; have kX := (Blk.new w 63 #[.int .i64 x.a, .int .i64 x.b, .string x.s]).below' hB1; have c0 := kX.cell 0 (.int .i64 x.a) rfl; have c1 := kX.cell 1 (.int .i64 x.b) rfl; have c2 := kX.cell 2 (.string x.s) rfl; have n1 := kX.lt; have hBw : Below w.heap.size w w1 := Below.trans (b := w.alloc (.cells #[.int .i64 x.a, .int .i64 x.b, .string x.s] 63)) (by (repeat' first | exact Below.refl _ _ | apply Below.drew | (refine Below.setCells ?_ _ _ ?_) | (refine Below.setCell ?_ ?_ _) | (refine Below.alloc ?_ ?_ _) | (simp; done) | (simp; omega))) (hB1.mono (by simp)); have hz1 := hBw.size) | (go_at_call 55; refine (wordRef_any x.s _ hs).mono ?_; rintro e w2 ⟨rfl, hB2⟩; rw [HW.out]; have kX2 := kX.below' hB2; have d0 := kX2.cell 0 (.int .i64 x.a) rfl; have d1 := kX2.cell 1 (.int .i64 x.b) rfl; have d2 := kX2.cell 2 (.string x.s) rfl; have n2 := kX2.lt; have hBw2 := hBw.trans (hB2.mono hz1); have hz2 := hBw2.size) | (go_at_call 69; refine (held_any h s x.b _ (by omega) (by omega) (by omega) (by omega) (by omega) (by omega)).mono ?_; rintro e w3 ⟨rfl, hB3⟩; rw [HD.out]; have kX3 := kX2.below' hB3; have e0 := kX3.cell 0 (.int .i64 x.a) rfl; have n3 := kX3.lt; have hBw3 := hBw2.trans (hB3.mono hz2)))
        go_ret
        exact Ret.int HX.out.symm hBw2
      · have HX := Lib.hid (doE_d (p := p) (s := s) (h := h) (n := n) hsh hw (by omega) h3 h4)
        have HS := Lib.hid hsh
        have HD := Lib.hid h4
        have t3 : (x.a == 1) = false := by simp [h3]
        have t4 : (x.a != 1) = true := by simp [h3]
        clear hsh hw h3 h4
        go_enter Try.func57, Try.ntmps57
        go_wp2_with (first | (go_at_call 78; refine (shaped_any x _).mono ?_; rintro e w1 ⟨rfl, hB1⟩; rw [HS.out]; have kX := (Blk.new w 63 #[.int .i64 x.a, .int .i64 x.b, .string x.s]).below' hB1; have c0 := kX.cell 0 (.int .i64 x.a) rfl; have c1 := kX.cell 1 (.int .i64 x.b) rfl; have c2 := kX.cell 2 (.string x.s) rfl; have n1 := kX.lt; have hBw : Below w.heap.size w w1 := Below.trans (b := w.alloc (.cells #[.int .i64 x.a, .int .i64 x.b, .string x.s] 63)) (by (repeat' first | exact Below.refl _ _ | apply Below.drew | (refine Below.setCells ?_ _ _ ?_) | (refine Below.setCell ?_ ?_ _) | (refine Below.alloc ?_ ?_ _) | (simp; done) | (simp; omega))) (hB1.mono (by simp)); have hz1 := hBw.size) | (go_at_call 55; refine (wordRef_any x.s _ hs).mono ?_; rintro e w2 ⟨rfl, hB2⟩; rw [HW.out]; have kX2 := kX.below' hB2; have d0 := kX2.cell 0 (.int .i64 x.a) rfl; have d1 := kX2.cell 1 (.int .i64 x.b) rfl; have d2 := kX2.cell 2 (.string x.s) rfl; have n2 := kX2.lt; have hBw2 := hBw.trans (hB2.mono hz1); have hz2 := hBw2.size) | (go_at_call 69; refine (held_any h s x.b _ (by omega) (by omega) (by omega) (by omega) (by omega) (by omega)).mono ?_; rintro e w3 ⟨rfl, hB3⟩; rw [HD.out]; have kX3 := kX2.below' hB3; have e0 := kX3.cell 0 (.int .i64 x.a) rfl; have n3 := kX3.lt; have hBw3 := hBw2.trans (hB3.mono hz2)))
        go_ret
        exact Ret.int HX.out.symm hBw3
      · have HX := Lib.hid (doE_l (p := p) (s := s) (h := h) (n := n) hsh hw (by omega) h3 h4 h5)
        have HS := Lib.hid hsh
        have HD := Lib.hid h4
        have t3 : (x.a == 1) = false := by simp [h3]
        have t4 : (x.a != 1) = true := by simp [h3]
        clear hsh hw h3 h4
        go_enter Try.func57, Try.ntmps57
        go_wp2_with (first | (go_at_call 78; refine (shaped_any x _).mono ?_; rintro e w1 ⟨rfl, hB1⟩; rw [HS.out]; have kX := (Blk.new w 63 #[.int .i64 x.a, .int .i64 x.b, .string x.s]).below' hB1; have c0 := kX.cell 0 (.int .i64 x.a) rfl; have c1 := kX.cell 1 (.int .i64 x.b) rfl; have c2 := kX.cell 2 (.string x.s) rfl; have n1 := kX.lt; have hBw : Below w.heap.size w w1 := Below.trans (b := w.alloc (.cells #[.int .i64 x.a, .int .i64 x.b, .string x.s] 63)) (by (repeat' first | exact Below.refl _ _ | apply Below.drew | (refine Below.setCells ?_ _ _ ?_) | (refine Below.setCell ?_ ?_ _) | (refine Below.alloc ?_ ?_ _) | (simp; done) | (simp; omega))) (hB1.mono (by simp)); have hz1 := hBw.size) | (go_at_call 55; refine (wordRef_any x.s _ hs).mono ?_; rintro e w2 ⟨rfl, hB2⟩; rw [HW.out]; have kX2 := kX.below' hB2; have d0 := kX2.cell 0 (.int .i64 x.a) rfl; have d1 := kX2.cell 1 (.int .i64 x.b) rfl; have d2 := kX2.cell 2 (.string x.s) rfl; have n2 := kX2.lt; have hBw2 := hBw.trans (hB2.mono hz1); have hz2 := hBw2.size) | (go_at_call 69; refine (held_any h s x.b _ (by omega) (by omega) (by omega) (by omega) (by omega) (by omega)).mono ?_; rintro e w3 ⟨rfl, hB3⟩; rw [HD.out]; have kX3 := kX2.below' hB3; have e0 := kX3.cell 0 (.int .i64 x.a) rfl; have n3 := kX3.lt; have hBw3 := hBw2.trans (hB3.mono hz2)))
        go_ret
        exact Ret.int HX.out.symm hBw3
      · have HX := Lib.hid (doE_0 (p := p) (s := s) (h := h) (n := n) hsh hw (by omega) (Or.inr ⟨h4, h5⟩))
        have HS := Lib.hid hsh
        have HD := Lib.hid h4
        have t3 : (x.a == 1) = false := by simp [h3]
        have t4 : (x.a != 1) = true := by simp [h3]
        clear hsh hw h3 h4
        go_enter Try.func57, Try.ntmps57
        go_wp2_with (first | (go_at_call 78; refine (shaped_any x _).mono ?_; rintro e w1 ⟨rfl, hB1⟩; rw [HS.out]; have kX := (Blk.new w 63 #[.int .i64 x.a, .int .i64 x.b, .string x.s]).below' hB1; have c0 := kX.cell 0 (.int .i64 x.a) rfl; have c1 := kX.cell 1 (.int .i64 x.b) rfl; have c2 := kX.cell 2 (.string x.s) rfl; have n1 := kX.lt; have hBw : Below w.heap.size w w1 := Below.trans (b := w.alloc (.cells #[.int .i64 x.a, .int .i64 x.b, .string x.s] 63)) (by (repeat' first | exact Below.refl _ _ | apply Below.drew | (refine Below.setCells ?_ _ _ ?_) | (refine Below.setCell ?_ ?_ _) | (refine Below.alloc ?_ ?_ _) | (simp; done) | (simp; omega))) (hB1.mono (by simp)); have hz1 := hBw.size) | (go_at_call 55; refine (wordRef_any x.s _ hs).mono ?_; rintro e w2 ⟨rfl, hB2⟩; rw [HW.out]; have kX2 := kX.below' hB2; have d0 := kX2.cell 0 (.int .i64 x.a) rfl; have d1 := kX2.cell 1 (.int .i64 x.b) rfl; have d2 := kX2.cell 2 (.string x.s) rfl; have n2 := kX2.lt; have hBw2 := hBw.trans (hB2.mono hz1); have hz2 := hBw2.size) | (go_at_call 69; refine (held_any h s x.b _ (by omega) (by omega) (by omega) (by omega) (by omega) (by omega)).mono ?_; rintro e w3 ⟨rfl, hB3⟩; rw [HD.out]; have kX3 := kX2.below' hB3; have e0 := kX3.cell 0 (.int .i64 x.a) rfl; have n3 := kX3.lt; have hBw3 := hBw2.trans (hB3.mono hz2)))
        go_ret
        exact Ret.int HX.out.symm hBw3
    · have HX := Lib.hid (doE_w (p := p) (s := s) (h := h) (n := n) hsh hw)
      have HS := Lib.hid hsh
      obtain ⟨E, HW⟩ : ∃ E, Hid (wordE x.s = E) := ⟨_, Lib.hid rfl⟩
      rw [HW.out] at hw
      have tw : (E != 0) = true := by simp [hw]
      clear hsh hw
      go_enter Try.func57, Try.ntmps57
      go_wp2_with (first | (go_at_call 78; refine (shaped_any x _).mono ?_; rintro e w1 ⟨rfl, hB1⟩; rw [HS.out]; have kX := (Blk.new w 63 #[.int .i64 x.a, .int .i64 x.b, .string x.s]).below' hB1; have c0 := kX.cell 0 (.int .i64 x.a) rfl; have c1 := kX.cell 1 (.int .i64 x.b) rfl; have c2 := kX.cell 2 (.string x.s) rfl; have n1 := kX.lt; have hBw : Below w.heap.size w w1 := Below.trans (b := w.alloc (.cells #[.int .i64 x.a, .int .i64 x.b, .string x.s] 63)) (by (repeat' first | exact Below.refl _ _ | apply Below.drew | (refine Below.setCells ?_ _ _ ?_) | (refine Below.setCell ?_ ?_ _) | (refine Below.alloc ?_ ?_ _) | (simp; done) | (simp; omega))) (hB1.mono (by simp)); have hz1 := hBw.size) | (go_at_call 55; refine (wordRef_any x.s _ hs).mono ?_; rintro e w2 ⟨rfl, hB2⟩; rw [HW.out]; have kX2 := kX.below' hB2; have d0 := kX2.cell 0 (.int .i64 x.a) rfl; have d1 := kX2.cell 1 (.int .i64 x.b) rfl; have d2 := kX2.cell 2 (.string x.s) rfl; have n2 := kX2.lt; have hBw2 := hBw.trans (hB2.mono hz1); have hz2 := hBw2.size) | (go_at_call 69; refine (held_any h s x.b _ (by omega) (by omega) (by omega) (by omega) (by omega) (by omega)).mono ?_; rintro e w3 ⟨rfl, hB3⟩; rw [HD.out]; have kX3 := kX2.below' hB3; have e0 := kX3.cell 0 (.int .i64 x.a) rfl; have n3 := kX3.lt; have hBw3 := hBw2.trans (hB3.mono hz2)))
      go_ret
      exact Ret.int (by rw [HX.out, HW.out]) hBw2

end Go.Proofs.Ytogkgoabonbkkaa
