/- The law FaultsKnown, walked. -/
import Derived.Test.YtblifdchofihoaaGreatDoorFText3
import Derived.Test.YtblifdchofihoaaGreatDoorLaw25
set_option linter.unusedSimpArgs false
set_option linter.unusedVariables false
namespace Go.Proofs.YtblifdchofihoaaGreatDoor
open Go Go.RowKit Tor

def knM : List Tri := [⟨1, 0, ⟨#[]⟩⟩, ⟨2, 0, ⟨#[67, 67]⟩⟩, ⟨2, 2, ⟨#[67, 84]⟩⟩, ⟨2, 1, ⟨#[67]⟩⟩]
def knT : List Tri := [⟨1, 0, ⟨#[]⟩⟩, ⟨2, 0, ⟨#[99, 84, 67]⟩⟩, ⟨2, 2, ⟨#[67, 84]⟩⟩, ⟨2, 1, ⟨#[67]⟩⟩]
def knP : List Tri := [⟨1, 0, ⟨#[]⟩⟩, ⟨2, 0, ⟨#[67, 84, 67]⟩⟩, ⟨2, 1, ⟨#[67, 84]⟩⟩, ⟨2, 1, ⟨#[67]⟩⟩]
def knS : List Tri := [⟨1, 0, ⟨#[]⟩⟩, ⟨2, 0, ⟨#[67, 84, 67]⟩⟩, ⟨2, 2, ⟨#[67, 84]⟩⟩]
theorem kn0 : putR 4 4 exF ⟨1, 1, 1, 0⟩ = (knM, 0) := by decide +kernel
theorem kn1 : putR 4 4 exF ⟨3, 1, 0, 0⟩ = (knT, 0) := by decide +kernel
theorem kn2 : putR 4 4 exF ⟨5, 2, 0, -1⟩ = (knP, 0) := by decide +kernel
theorem kn3 : putR 4 4 exF ⟨4, 3, 0, 0⟩ = (knS, 0) := by decide +kernel
theorem kn4 : putR 4 4 exF ⟨1, 0, 0, 0⟩ = ([], 4) := by decide +kernel
theorem kn5 : putR 4 4 exF ⟨1, 1, 3, 0⟩ = ([], 4) := by decide +kernel
theorem kn6 : putR 4 4 exF ⟨5, 2, 0, 1⟩ = ([], 9) := by decide +kernel
theorem knSame : sameR 4 4 exF ⟨1, 1, 0, 0⟩ ⟨1, 1, 1, 0⟩ = (false, 0) := by decide +kernel

set_option maxRecDepth 100000 in
set_option maxHeartbeats 8000000 in
theorem lawKnown25_any (m : Int) (w : World) (hm : w.cell? ⟨0, 0, none⟩ = some (.int .i64 m)) : Calls Tryz.prog 4 #[] w (Ret (.bool true) w) := by
  have m0 := lt_of_cell hm
  have P0 := Lib.hid (fun (w' : World) (A : Option Addr) (hr : RdT w' w'.heap.size A exF) => (by have := fput_any 4 4 A exF 4 ⟨1, 1, 1, 0⟩ w' _ hr (Nat.le_refl _) exF_words (by decide); rw [kn0] at this; exact this : Calls Tryz.prog 10 #[.int .i64 4, .int .i64 4, .slice A 4 4, .agg #[.int .i64 1, .int .i64 1, .int .i64 1, .int .i64 0]] w' (PutRet w' knM 0)))
  have P1 := Lib.hid (fun (w' : World) (A : Option Addr) (hr : RdT w' w'.heap.size A exF) => (by have := fput_any 4 4 A exF 4 ⟨3, 1, 0, 0⟩ w' _ hr (Nat.le_refl _) exF_words (by decide); rw [kn1] at this; exact this : Calls Tryz.prog 10 #[.int .i64 4, .int .i64 4, .slice A 4 4, .agg #[.int .i64 3, .int .i64 1, .int .i64 0, .int .i64 0]] w' (PutRet w' knT 0)))
  have P2 := Lib.hid (fun (w' : World) (A : Option Addr) (hr : RdT w' w'.heap.size A exF) => (by have := fput_any 4 4 A exF 4 ⟨5, 2, 0, -1⟩ w' _ hr (Nat.le_refl _) exF_words (by decide); rw [kn2] at this; exact this : Calls Tryz.prog 10 #[.int .i64 4, .int .i64 4, .slice A 4 4, .agg #[.int .i64 5, .int .i64 2, .int .i64 0, .int .i64 (-1)]] w' (PutRet w' knP 0)))
  have P3 := Lib.hid (fun (w' : World) (A : Option Addr) (hr : RdT w' w'.heap.size A exF) => (by have := fput_any 4 4 A exF 4 ⟨4, 3, 0, 0⟩ w' _ hr (Nat.le_refl _) exF_words (by decide); rw [kn3] at this; exact this : Calls Tryz.prog 10 #[.int .i64 4, .int .i64 4, .slice A 4 4, .agg #[.int .i64 4, .int .i64 3, .int .i64 0, .int .i64 0]] w' (PutRet w' knS 0)))
  have P4 := Lib.hid (fun (w' : World) (A : Option Addr) (hr : RdT w' w'.heap.size A exF) => (by have := fput_any 4 4 A exF 4 ⟨1, 0, 0, 0⟩ w' _ hr (Nat.le_refl _) exF_words (by decide); rw [kn4] at this; exact this : Calls Tryz.prog 10 #[.int .i64 4, .int .i64 4, .slice A 4 4, .agg #[.int .i64 1, .int .i64 0, .int .i64 0, .int .i64 0]] w' (PutRet w' [] 4)))
  have P5 := Lib.hid (fun (w' : World) (A : Option Addr) (hr : RdT w' w'.heap.size A exF) => (by have := fput_any 4 4 A exF 4 ⟨1, 1, 3, 0⟩ w' _ hr (Nat.le_refl _) exF_words (by decide); rw [kn5] at this; exact this : Calls Tryz.prog 10 #[.int .i64 4, .int .i64 4, .slice A 4 4, .agg #[.int .i64 1, .int .i64 1, .int .i64 3, .int .i64 0]] w' (PutRet w' [] 4)))
  have P6 := Lib.hid (fun (w' : World) (A : Option Addr) (hr : RdT w' w'.heap.size A exF) => (by have := fput_any 4 4 A exF 4 ⟨5, 2, 0, 1⟩ w' _ hr (Nat.le_refl _) exF_words (by decide); rw [kn6] at this; exact this : Calls Tryz.prog 10 #[.int .i64 4, .int .i64 4, .slice A 4 4, .agg #[.int .i64 5, .int .i64 2, .int .i64 0, .int .i64 1]] w' (PutRet w' [] 9)))
  have PS := Lib.hid (fun (w' : World) (A : Option Addr) (hr : RdT w' w'.heap.size A exF) => (by have := fsame_any 4 4 A exF 4 ⟨1, 1, 0, 0⟩ ⟨1, 1, 1, 0⟩ w' _ hr (Nat.le_refl _) exF_words (by decide) (by decide); rw [knSame] at this; exact this : Calls Tryz.prog 12 #[.int .i64 4, .int .i64 4, .slice A 4 4, .agg #[.int .i64 1, .int .i64 1, .int .i64 0, .int .i64 0], .agg #[.int .i64 1, .int .i64 1, .int .i64 1, .int .i64 0]] w' (Ret (.tuple #[.bool false, .int .i64 0]) w')))
  go_enter Tryz.func4, Tryz.ntmps4
  go_wp2_with fail
  refine (example_any w).mono ?_
  rintro e x0 ⟨A0, rfl, hr0, hX0⟩
  have bx0 : Below w.heap.size w x0 := (Below.refl w.heap.size w).trans (hX0.mono (Below.refl w.heap.size w).size)
  go_wp2_with fail
  refine (P0.out x0 A0 hr0).mono ?_
  rintro e y0 ⟨D0, d0, rfl, hq0, hY0⟩
  have by0 : Below w.heap.size w y0 := bx0.trans (hY0.mono bx0.size)
  go_wp2_with fail
  refine (example_any y0).mono ?_
  rintro e x1 ⟨A1, rfl, hr1, hX1⟩
  have bx1 : Below w.heap.size w x1 := by0.trans (hX1.mono by0.size)
  go_wp2_with fail
  refine (P1.out x1 A1 hr1).mono ?_
  rintro e y1 ⟨D1, d1, rfl, hq1, hY1⟩
  have by1 : Below w.heap.size w y1 := bx1.trans (hY1.mono bx1.size)
  go_wp2_with fail
  refine (example_any y1).mono ?_
  rintro e x2 ⟨A2, rfl, hr2, hX2⟩
  have bx2 : Below w.heap.size w x2 := by1.trans (hX2.mono by1.size)
  go_wp2_with fail
  refine (P2.out x2 A2 hr2).mono ?_
  rintro e y2 ⟨D2, d2, rfl, hq2, hY2⟩
  have by2 : Below w.heap.size w y2 := bx2.trans (hY2.mono bx2.size)
  go_wp2_with fail
  refine (example_any y2).mono ?_
  rintro e x3 ⟨A3, rfl, hr3, hX3⟩
  have bx3 : Below w.heap.size w x3 := by2.trans (hX3.mono by2.size)
  go_wp2_with fail
  refine (P3.out x3 A3 hr3).mono ?_
  rintro e y3 ⟨D3, d3, rfl, hq3, hY3⟩
  have by3 : Below w.heap.size w y3 := bx3.trans (hY3.mono bx3.size)
  have z1 := hX1.trans (hY1.mono hX1.size)
  have z2 := hX2.trans (hY2.mono hX2.size)
  have z3 := hX3.trans (hY3.mono hX3.size)
  have z23 := z2.trans (z3.mono z2.size)
  have z123 := z1.trans (z23.mono z1.size)
  obtain ⟨b1, o1, eD, hb1, _, _, g1⟩ := Rd.tri (hq0.below' z123 (Nat.le_refl _)) (k := 1) (by decide)
  subst eD
  have g1' : y3.cell? ⟨b1, o1 + 1 * 3 + 2, none⟩ = some (.string ⟨#[67, 67]⟩) := g1
  obtain ⟨b2, o2, eD, hb2, _, _, g2⟩ := Rd.tri (hq1.below' z23 (Nat.le_refl _)) (k := 1) (by decide)
  subst eD
  have g2' : y3.cell? ⟨b2, o2 + 1 * 3 + 2, none⟩ = some (.string ⟨#[99, 84, 67]⟩) := g2
  obtain ⟨b3, o3, eD, hb3, _, g3, _⟩ := Rd.tri (hq2.below' z3 (Nat.le_refl _)) (k := 2) (by decide)
  subst eD
  have g3' : y3.cell? ⟨b3, o3 + 2 * 3 + 1, none⟩ = some (.int .i64 1) := g3
  simp only [Nat.reduceMul] at g1' g2' g3'
  clear g1 g2 g3
  have eM : knM.length = 4 := rfl
  have eT : knT.length = 4 := rfl
  have eP : knP.length = 4 := rfl
  have eS : knS.length = 3 := rfl
  rw [eM, eT, eP, eS]
  go_wp2_with fail
  refine (example_any y3).mono ?_
  rintro e x4 ⟨A4, rfl, hr4, hX4⟩
  have bx4 : Below w.heap.size w x4 := by3.trans (hX4.mono by3.size)
  go_wp2_with fail
  refine (P4.out x4 A4 hr4).mono ?_
  rintro e y4 ⟨D4, d4, rfl, hq4, hY4⟩
  have by4 : Below w.heap.size w y4 := bx4.trans (hY4.mono bx4.size)
  go_wp2_with fail
  refine (example_any y4).mono ?_
  rintro e x5 ⟨A5, rfl, hr5, hX5⟩
  have bx5 : Below w.heap.size w x5 := by4.trans (hX5.mono by4.size)
  go_wp2_with fail
  refine (P5.out x5 A5 hr5).mono ?_
  rintro e y5 ⟨D5, d5, rfl, hq5, hY5⟩
  have by5 : Below w.heap.size w y5 := bx5.trans (hY5.mono bx5.size)
  go_wp2_with fail
  refine (example_any y5).mono ?_
  rintro e x6 ⟨A6, rfl, hr6, hX6⟩
  have bx6 : Below w.heap.size w x6 := by5.trans (hX6.mono by5.size)
  go_wp2_with fail
  refine (P6.out x6 A6 hr6).mono ?_
  rintro e y6 ⟨D6, d6, rfl, hq6, hY6⟩
  have by6 : Below w.heap.size w y6 := bx6.trans (hY6.mono bx6.size)
  go_wp2_with fail
  refine (example_any y6).mono ?_
  rintro e x9 ⟨A9, rfl, hr9, hX9⟩
  have bx9 : Below w.heap.size w x9 := by6.trans (hX9.mono by6.size)
  go_wp2_with fail
  refine (PS.out x9 A9 hr9).mono ?_
  rintro e y9 ⟨rfl, hY9⟩
  have by9 : Below w.heap.size w y9 := bx9.trans (hY9.mono bx9.size)
  go_wp2_with fail
  refine (fprint_ex y9).mono ?_
  rintro e u1 ⟨rfl, hU1⟩
  have bu1 : Below w.heap.size w u1 := by9.trans (hU1.mono by9.size)
  go_wp2_with fail
  refine (fparse_ex m u1 ((bu1.cell (p := ⟨0, 0, none⟩) m0).trans hm)).mono ?_
  rintro e u2 ⟨rfl, hU2⟩
  have bu2 : Below w.heap.size w u2 := bu1.trans (hU2.mono bu1.size)
  go_wp2_with fail
  refine (awake_any u2).mono ?_
  rintro e u3 ⟨rfl, hU3⟩
  go_wp2_with fail
  go_ret
  exact Ret.val rfl (bu2.trans (hU3.mono bu2.size))
end Go.Proofs.YtblifdchofihoaaGreatDoor
