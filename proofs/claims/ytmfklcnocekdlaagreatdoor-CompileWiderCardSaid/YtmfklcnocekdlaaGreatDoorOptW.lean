/- Plain: with a span that is greater by one there are no more reaches. -/
import Derived.Test.YtmfklcnocekdlaaGreatDoorOldB
set_option linter.unusedSimpArgs false
set_option linter.unusedVariables false
namespace Go.Proofs.YtmfklcnocekdlaaGreatDoor
open Go Go.RowKit Tor

section
variable {p s : Int}
theorem held_wider {h b : Int} (h0 : 0 ≤ h) (h1 : h ≤ p - s) (hs : 2 ≤ s) (hsp : s + 1 ≤ p) (hh : heldB h s b = true) : heldB (min h (p - (s + 1))) (s + 1) b = true := by
  rw [held_iff] at hh ⊢; omega
theorem runN_wider {h : Int} (h0 : 0 ≤ h) (h1 : h ≤ p - s) (hs : 2 ≤ s) (hsp : s + 1 ≤ p) : ∀ l : List Tri, runN l h s ≤ runN l (min h (p - (s + 1))) (s + 1)
  | [] => Nat.le_refl _
  | x :: r => by
    have ih := runN_wider h0 h1 hs hsp r
    cases hh : heldB h s x.b
    · rw [runN_not hh]; exact Nat.zero_le _
    · rw [runN_held hh, runN_held (held_wider h0 h1 hs hsp hh)]; omega
theorem mx_wider (hs : 2 ≤ s) (hsp : s + 1 ≤ p) (l : List Tri) : mx p s l ≤ mx p (s + 1) l := by
  obtain ⟨b, b0, b1, b2⟩ := mx_at (s := s) (p := p) l (by omega)
  have h1 := runN_wider b0 b1 hs hsp l
  have h2 := mx_ge (p := p) (s := s + 1) (l := l) (h := min b (p - (s + 1))) (by omega) (by omega)
  omega
theorem C_wider (hs : 2 ≤ s) (hsp : s + 1 ≤ p) : ∀ (n : Nat) (l : List Tri), l.length ≤ n → (∀ x ∈ l, WOk p x) → C p (s + 1) l ≤ C p s l
  | n, [], _, _ => Nat.le_refl _
  | 0, x :: r, hn, _ => by simp at hn
  | n + 1, x :: r, hn, hw => by
    have hx := hw x (by simp)
    have m1 := mx_pos (r := r) (s := s) hx hs (by omega)
    rw [C_cons (s := s + 1) hx (by omega) hsp, C_cons (s := s) hx hs (by omega)]
    have h1 := C_mono2 (s := s + 1) (l := x :: r) (by omega) hsp hw (mx_wider hs hsp (x :: r))
    have h2 := C_wider hs hsp n ((x :: r).drop (mx p s (x :: r))) (by rw [List.length_drop]; simp only [List.length_cons] at hn ⊢; omega) (fun z hz => hw z (List.mem_of_mem_drop hz))
    omega
theorem best_wider {l : List Tri} (hs : 2 ≤ s) (hsp : s + 1 ≤ p) (h10 : l.length ≤ 10) (hw : ∀ x ∈ l, WOk p x) : C p (s + 1) ((bestO p (s + 1) l).map (xAt l)) ≤ C p s ((bestO p s l).map (xAt l)) := by
  obtain ⟨h1, h2⟩ := bestO_lin (p := p) (s := s) h10
  have h3 := bestO_opt (p := p) (s := s + 1) (by omega) hsp h10 hw h1 h2
  have h4 := C_wider hs hsp _ ((bestO p s l).map (xAt l)) (Nat.le_refl _) (lin_wok hw h1)
  omega
end
end Go.Proofs.YtmfklcnocekdlaaGreatDoor
