/- torchonref02.Same: two words that are the same braid are told to be the same. -/
import Derived.Test.YtfnklchhhojimaaBrdU
set_option linter.unusedSimpArgs false
set_option linter.unusedVariables false
namespace Go.Proofs.Ytfnklchhhojimaa
open Go Go.RowKit Tor Brd

theorem RdG.wide {w : World} {H H' : Nat} {A : Option Addr} {R : List (List Nat)} (h : RdG w H A R) (hH : H ≤ H') : RdG w H' A R := fun hne => by
  obtain ⟨b, o, e, hb, hc⟩ := h hne
  refine ⟨b, o, e, by omega, fun k hk => ?_⟩
  obtain ⟨Ak, ck, h1, h2⟩ := hc k hk
  exact ⟨Ak, ck, h1, h2.more hH⟩
set_option maxRecDepth 100000 in
set_option maxHeartbeats 4000000 in
theorem bsame_any (n : Nat) (h1n : 1 < n) (h12 : n ≤ 12) (A : Option Addr) (l : List Int) (c : Nat) (B : Option Addr) (m : List Int) (d : Nat) (w : World) (H : Nat) (hr : RdI w H A l) (hr2 : RdI w H B m) (hH : H ≤ w.heap.size) (hl : l.length ≤ 400) (hm : m.length ≤ 400) (hin : ∀ x ∈ l, InR n x) (hin2 : ∀ x ∈ m, InR n x) (hE : BrEq n l m) :
    Calls Try.prog 9 #[.int .i64 n, .slice A l.length c, .slice B m.length d] w (Ret (.tuple #[.bool true, .int .i64 0]) w) := by
  have H0 := Lib.hid (bboth_any n (by omega) h12 A l c B m d w H hr hr2 hH hl hm hin hin2)
  have H1 := Lib.hid (fun w' (hB : Below w.heap.size w w') => bnormal_any n h1n h12 A l c w' H (hr.below' hB hH) (Nat.le_trans hH hB.size) hl hin)
  have H2 := Lib.hid (fun w' (hB : Below w.heap.size w w') => bnormal_any n h1n h12 B m d w' H (hr2.below' hB hH) (Nat.le_trans hH hB.size) hm hin2)
  have HU := Lib.hid (fun (r s : Int × List (List Nat)) (h1 : Fin_ n l r) (h2 : Fin_ n m s) => BrEq.same h1n hE hin h1 h2)
  clear hin hin2 hE
  go_enter Try.func9, Try.ntmps9
  go_wp2_with (first
    | (go_at_call 21; refine H0.out.mono ?_; rintro e w1 ⟨rfl, hB1⟩; clear H0
       have hz1 := hB1.size)
    | (go_at_call 22; refine (H1.out w1 hB1).mono ?_; rintro e w2 ⟨A2, c2, p2, L2, rfl, g2, f2, i2, n2, hB2⟩; clear H1
       have hB12 := hB1.trans (hB2.mono hz1)
       have hz2 := hB12.size)
    | (go_at_call 22; refine (H2.out w2 hB12).mono ?_; rintro e w3 ⟨A3, c3, p3, L3, rfl, g3, f3, i3, n3, hB3⟩; clear H2
       have hB13 := hB12.trans (hB3.mono hz2)
       have hz3 := hB3.size
       have hU := HU.out _ _ f2 f3
       injection hU with u1 u2
       subst u1 u2
       clear f2 f3
       have g2' := g2.below hB3
       have HF := Lib.hid (bsameForm_eq A2 A3 L2 c2 c3 w3 w3.heap.size n2 i2 (g2'.wide hz3) g3 (Nat.le_refl _)))
    | (go_at_call 23; refine HF.out.mono ?_; rintro e w4 ⟨rfl, hB4⟩)
    | fail)
  go_ret2
  exact ⟨rfl, hB13.trans (hB4.mono (Nat.le_trans hz2 hz3))⟩
end Go.Proofs.Ytfnklchhhojimaa
