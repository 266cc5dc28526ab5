/- faults: Parse at the document's example, walked. -/
import Derived.Test.YtblifdchofihoaaGreatDoorFText2
set_option linter.unusedSimpArgs false
set_option linter.unusedVariables false
namespace Go.Proofs.YtblifdchofihoaaGreatDoor
open Go Go.RowKit Tor

theorem fltc_ret2 {fn : Func} {p u : Tmp} (h : fn.results = #[.cell p 23, .tmp u]) {R : Ending → World → Prop} {a : Act} {w : World} {g : Nat} {x y z v : Value} (hp : a.tmps.getD p undef = .pointer (some ⟨g, 0, none⟩))
    (hb : Blk w g 23 #[x, y, z, v]) (hd : a.defers = []) (hR : R (.returned (.tuple #[.agg #[x, y, z, v], a.tmps.getD u undef])) w) : bodyPost Tryz.prog fn R .ret a w := by
  refine bodyPost_ret (v := .tuple #[.agg #[x, y, z, v], a.tmps.getD u undef]) ?_ hd hR
  have c0 := hb.cell 0 x rfl
  have c1 := hb.cell 1 y rfl
  have c2 := hb.cell 2 z rfl
  have c3 := hb.cell 3 v rfl
  have hp' : a.tmps[p]?.getD undef = .pointer (some ⟨g, 0, none⟩) := by simpa using hp
  simp only [results, h]
  simp [Sem.run_bind, Result.andThen, hp']
  go_simp
theorem num_ex (c : UInt8) (n least most : Int) (hc : (c = 48 ∧ n = 0) ∨ (c = 50 ∧ n = 2)) (h1 : least ≤ n) (h2 : n ≤ most) (w : World) :
    Calls Tryz.prog 22 #[.string ⟨#[c]⟩, .int .i64 least, .int .i64 most] w (Ret (.int .i64 n) w) := by
  have H := Lib.hid (wint_ex c n least most hc h1 h2 w)
  go_enter Tryz.func22, Tryz.ntmps22
  go_wp2_with (first | (go_at_call 23; refine H.out.mono ?_; rintro e w1 ⟨rfl, hB1⟩) | fail)
  go_ret
  exact Ret.int rfl hB1

set_option maxRecDepth 100000 in
set_option maxHeartbeats 8000000 in
theorem fparse_ex (m : Int) (w : World) (hm : w.cell? ⟨0, 0, none⟩ = some (.int .i64 m)) :
    Calls Tryz.prog 8 #[.string sLine] w (Ret (.tuple #[.agg #[.int .i64 0, .int .i64 0, .int .i64 0, .int .i64 0], .int .i64 6]) w) := by
  have hm1 := cell_old (o := (.cells #[.int .i64 0, .int .i64 0, .int .i64 0, .int .i64 0] 23)) hm
  have H2 := Lib.hid (fun (w' : World) => num_ex 50 2 0 999 (Or.inr ⟨rfl, rfl⟩) (by decide) (by decide) w')
  have H0 := Lib.hid (fun (w' : World) => num_ex 48 0 (-1) 1 (Or.inl ⟨rfl, rfl⟩) (by decide) (by decide) w')
  obtain ⟨w1, hw1⟩ : ∃ w1, Hid ((((w.alloc (.cells #[.int .i64 0, .int .i64 0, .int .i64 0, .int .i64 0] 23)).alloc (.cells #[.string sPlace, .string ⟨#[50]⟩, .string ⟨#[48]⟩] 9)).alloc (.cells #[.slice (some ⟨w.heap.size + 1, 0, none⟩) 3 3] 53)) = w1) := ⟨_, Lib.hid rfl⟩
  have kR1 : Blk w1 w.heap.size 23 #[.int .i64 0, .int .i64 0, .int .i64 0, .int .i64 0] := by rw [← hw1.out]; exact ((Blk.new w _ _).alloc _).alloc _
  have kS1 : Blk w1 (w.heap.size + 1) 9 #[.string sPlace, .string ⟨#[50]⟩, .string ⟨#[48]⟩] := by
    rw [← hw1.out]; have := (Blk.new (w.alloc (.cells #[.int .i64 0, .int .i64 0, .int .i64 0, .int .i64 0] 23)) 9 #[.string sPlace, .string ⟨#[50]⟩, .string ⟨#[48]⟩]).alloc (.cells #[.slice (some ⟨w.heap.size + 1, 0, none⟩) 3 3] 53); rw [World.size_alloc] at this; exact this
  have kL1 : Blk w1 (w.heap.size + 1 + 1) 53 #[.slice (some ⟨w.heap.size + 1, 0, none⟩) 3 3] := by
    rw [← hw1.out]; have := Blk.new ((w.alloc (.cells #[.int .i64 0, .int .i64 0, .int .i64 0, .int .i64 0] 23)).alloc (.cells #[.string sPlace, .string ⟨#[50]⟩, .string ⟨#[48]⟩] 9)) 53 #[.slice (some ⟨w.heap.size + 1, 0, none⟩) 3 3]; rw [World.size_alloc, World.size_alloc] at this; exact this
  have hB1 : Below w.heap.size w w1 := by rw [← hw1.out]; (repeat' first | exact Below.refl _ _ | apply Below.drew | (refine Below.setCells ?_ _ _ ?_) | (refine Below.setCell ?_ ?_ _) | (refine Below.alloc ?_ ?_ _) | (simp; done) | (simp; omega))
  go_enter Tryz.func8, Tryz.ntmps8
  go_wp2_with (first
    | (go_at_call 19; refine (split_ex m _ hm1).mono ?_; rintro e w9 ⟨rfl, rfl⟩)
    | (go_at_call 15; fail)
    | fail)
  rw [hw1.out]
  clear hw1
  refine (kinds_any w1).mono ?_
  rintro e w2 ⟨g, K, rfl, hK, hB2⟩
  have hB2' := hB1.trans (hB2.mono hB1.size)
  have kG2 := hK.blk
  have kR2 := kR1.below' hB2
  have kS2 := kS1.below' hB2
  have kL2 := kL1.below' hB2
  have l2 := kL2.cell 0 (.slice (some ⟨w.heap.size + 1, 0, none⟩) 3 3) rfl
  have s20 := kS2.cell 0 (.string sPlace) rfl
  have s21 := kS2.cell 1 (.string ⟨#[50]⟩) rfl
  have s22 := kS2.cell 2 (.string ⟨#[48]⟩) rfl
  have g2a := kG2.cell 24 (.int .i64 5) rfl
  have g2b := kG2.cell 26 (.bool false) rfl
  have HI := Lib.hid (indexk_any (w.heap.size + 1 + 1) (w.heap.size + 1) g w2.heap.size K w2 hK (Nat.le_refl _) l2 s20)
  go_wp2_with (first
    | (go_at_call 20; refine HI.out.mono ?_; rintro e w3 ⟨rfl, hB3⟩
       have kR3 := kR2.below' hB3
       have kS3 := kS2.below' hB3
       have kL3 := kL2.below' hB3
       have kG3 := kG2.below' hB3
       have l3 := kL3.cell 0 (.slice (some ⟨w.heap.size + 1, 0, none⟩) 3 3) rfl
       have s30 := kS3.cell 0 (.string sPlace) rfl
       have s31 := kS3.cell 1 (.string ⟨#[50]⟩) rfl
       have s32 := kS3.cell 2 (.string ⟨#[48]⟩) rfl
       have g3a := kG3.cell 24 (.int .i64 5) rfl
       have g3b := kG3.cell 26 (.bool false) rfl
       have hB3' := hB2'.trans (hB3.mono hB2'.size)
       have kF4 := Blk.new w3 23 #[.int .i64 5, .int .i64 0, .int .i64 0, .int .i64 0]
       have kR4 := kR3.alloc (.cells #[.int .i64 5, .int .i64 0, .int .i64 0, .int .i64 0] 23)
       have kS4 := kS3.alloc (.cells #[.int .i64 5, .int .i64 0, .int .i64 0, .int .i64 0] 23)
       have kL4 := kL3.alloc (.cells #[.int .i64 5, .int .i64 0, .int .i64 0, .int .i64 0] 23)
       have kG4 := kG3.alloc (.cells #[.int .i64 5, .int .i64 0, .int .i64 0, .int .i64 0] 23)
       have l4 := kL4.cell 0 (.slice (some ⟨w.heap.size + 1, 0, none⟩) 3 3) rfl
       have s40 := kS4.cell 0 (.string sPlace) rfl
       have s41 := kS4.cell 1 (.string ⟨#[50]⟩) rfl
       have s42 := kS4.cell 2 (.string ⟨#[48]⟩) rfl
       have g4a := kG4.cell 24 (.int .i64 5) rfl
       have g4b := kG4.cell 26 (.bool false) rfl
       have f40 := kF4.cell 0 (.int .i64 5) rfl
       have z40 := kF4.frozen 0
       have f41 := kF4.cell 1 (.int .i64 0) rfl
       have z41 := kF4.frozen 1
       have f42 := kF4.cell 2 (.int .i64 0) rfl
       have z42 := kF4.frozen 2
       have f43 := kF4.cell 3 (.int .i64 0) rfl
       have z43 := kF4.frozen 3)
    | fail)
  refine (H2.out _).mono ?_
  rintro e w5 ⟨rfl, hB5⟩
  have kR5 := kR4.below' hB5
  have kS5 := kS4.below' hB5
  have kL5 := kL4.below' hB5
  have kG5 := kG4.below' hB5
  have kF5 := kF4.below' hB5
  have l5 := kL5.cell 0 (.slice (some ⟨w.heap.size + 1, 0, none⟩) 3 3) rfl
  have s50 := kS5.cell 0 (.string sPlace) rfl
  have s51 := kS5.cell 1 (.string ⟨#[50]⟩) rfl
  have s52 := kS5.cell 2 (.string ⟨#[48]⟩) rfl
  have g5a := kG5.cell 24 (.int .i64 5) rfl
  have g5b := kG5.cell 26 (.bool false) rfl
  have f50 := kF5.cell 0 (.int .i64 5) rfl
  have z50 := kF5.frozen 0
  have f51 := kF5.cell 1 (.int .i64 0) rfl
  have z51 := kF5.frozen 1
  have f52 := kF5.cell 2 (.int .i64 0) rfl
  have z52 := kF5.frozen 2
  have f53 := kF5.cell 3 (.int .i64 0) rfl
  have z53 := kF5.frozen 3
  have hz3 := hB3'.size
  have hB4' : Below w.heap.size w (w3.alloc (.cells #[.int .i64 5, .int .i64 0, .int .i64 0, .int .i64 0] 23)) := hB3'.alloc hz3 _
  have hB5' := hB4'.trans (hB5.mono hB4'.size)
  have h35 : w3.heap.size < w5.heap.size := kF5.lt
  have bR := kR3.lt
  have bS := kS3.lt
  have bL := kL3.lt
  have bG := kG3.lt
  have kR6 := kR5.far (p := ⟨w3.heap.size, 1, none⟩) (by simp; omega) (.int .i64 2)
  have kS6 := kS5.far (p := ⟨w3.heap.size, 1, none⟩) (by simp; omega) (.int .i64 2)
  have kL6 := kL5.far (p := ⟨w3.heap.size, 1, none⟩) (by simp; omega) (.int .i64 2)
  have kG6 := kG5.far (p := ⟨w3.heap.size, 1, none⟩) (by simp; omega) (.int .i64 2)
  have kF6 := kF5.set_ 1 (.int .i64 2)
  have hB6' := hB5'.setCell (p := ⟨w3.heap.size, 1, none⟩) hz3 (.int .i64 2)
  have l6 := kL6.cell 0 (.slice (some ⟨w.heap.size + 1, 0, none⟩) 3 3) rfl
  have s60 := kS6.cell 0 (.string sPlace) rfl
  have s61 := kS6.cell 1 (.string ⟨#[50]⟩) rfl
  have s62 := kS6.cell 2 (.string ⟨#[48]⟩) rfl
  have g6a := kG6.cell 24 (.int .i64 5) rfl
  have g6b := kG6.cell 26 (.bool false) rfl
  have f60 := kF6.cell 0 (.int .i64 5) rfl
  have z60 := kF6.frozen 0
  have f61 := kF6.cell 1 (.int .i64 2) rfl
  have z61 := kF6.frozen 1
  have f62 := kF6.cell 2 (.int .i64 0) rfl
  have z62 := kF6.frozen 2
  have f63 := kF6.cell 3 (.int .i64 0) rfl
  have z63 := kF6.frozen 3
  go_wp2_with fail
  refine (H0.out _).mono ?_
  rintro e w7 ⟨rfl, hB7⟩
  have kR7 := kR6.below' hB7
  have kS7 := kS6.below' hB7
  have kL7 := kL6.below' hB7
  have kG7 := kG6.below' hB7
  have kF7 := kF6.below' hB7
  have l7 := kL7.cell 0 (.slice (some ⟨w.heap.size + 1, 0, none⟩) 3 3) rfl
  have s70 := kS7.cell 0 (.string sPlace) rfl
  have s71 := kS7.cell 1 (.string ⟨#[50]⟩) rfl
  have s72 := kS7.cell 2 (.string ⟨#[48]⟩) rfl
  have g7a := kG7.cell 24 (.int .i64 5) rfl
  have g7b := kG7.cell 26 (.bool false) rfl
  have f70 := kF7.cell 0 (.int .i64 5) rfl
  have z70 := kF7.frozen 0
  have f71 := kF7.cell 1 (.int .i64 2) rfl
  have z71 := kF7.frozen 1
  have f72 := kF7.cell 2 (.int .i64 0) rfl
  have z72 := kF7.frozen 2
  have f73 := kF7.cell 3 (.int .i64 0) rfl
  have z73 := kF7.frozen 3
  have hB7' := hB6'.trans (hB7.mono hB6'.size)
  have kR8 := kR7.far (p := ⟨w3.heap.size, 3, none⟩) (by simp; omega) (.int .i64 0)
  have kS8 := kS7.far (p := ⟨w3.heap.size, 3, none⟩) (by simp; omega) (.int .i64 0)
  have kL8 := kL7.far (p := ⟨w3.heap.size, 3, none⟩) (by simp; omega) (.int .i64 0)
  have kG8 := kG7.far (p := ⟨w3.heap.size, 3, none⟩) (by simp; omega) (.int .i64 0)
  have kF8 := kF7.set_ 3 (.int .i64 0)
  have hB8' := hB7'.setCell (p := ⟨w3.heap.size, 3, none⟩) hz3 (.int .i64 0)
  have l8 := kL8.cell 0 (.slice (some ⟨w.heap.size + 1, 0, none⟩) 3 3) rfl
  have s80 := kS8.cell 0 (.string sPlace) rfl
  have s81 := kS8.cell 1 (.string ⟨#[50]⟩) rfl
  have s82 := kS8.cell 2 (.string ⟨#[48]⟩) rfl
  have g8a := kG8.cell 24 (.int .i64 5) rfl
  have g8b := kG8.cell 26 (.bool false) rfl
  have f80 := kF8.cell 0 (.int .i64 5) rfl
  have z80 := kF8.frozen 0
  have f81 := kF8.cell 1 (.int .i64 2) rfl
  have z81 := kF8.frozen 1
  have f82 := kF8.cell 2 (.int .i64 0) rfl
  have z82 := kF8.frozen 2
  have f83 := kF8.cell 3 (.int .i64 0) rfl
  have z83 := kF8.frozen 3
  have h23 := hB3.size
  have hC4 : Below w2.heap.size w2 (w3.alloc (.cells #[.int .i64 5, .int .i64 0, .int .i64 0, .int .i64 0] 23)) := hB3.alloc h23 _
  have hC8 : Below w2.heap.size w2 (w7.setCell ⟨w3.heap.size, 3, none⟩ (.int .i64 0)) := Below.setCell ((Below.setCell (hC4.trans (hB5.mono hC4.size)) (p := ⟨w3.heap.size, 1, none⟩) h23 (.int .i64 2)).trans (hB7.mono (Below.setCell (hC4.trans (hB5.mono hC4.size)) (p := ⟨w3.heap.size, 1, none⟩) h23 (.int .i64 2)).size)) (p := ⟨w3.heap.size, 3, none⟩) h23 (.int .i64 0)
  have HFD := Lib.hid (find_any g K ⟨5, 2, 0, 0⟩ (w7.setCell ⟨w3.heap.size, 3, none⟩ (.int .i64 0)) w2.heap.size (hK.below hC8 (Nat.le_refl _)) hC8.size)
  obtain ⟨A9, c9, hv9, _, _⟩ := hK.withs (k := 5)
  have hkc : (kcell K 5).toArray = #[.int .i64 5, .string sPlace, .bool false, .slice A9 2 c9, .func (.func 31) #[] #[], .func (.func 40) #[] #[]] := by unfold kcell; rw [if_pos (by decide)]; unfold kcells; rw [hv9]; rfl
  rw [hkc, show shapedF ⟨5, 2, 0, 0⟩ = false from by decide] at HFD
  clear hkc hv9
  go_wp2_with (first
    | (go_at_call 14; refine HFD.out.mono ?_; rintro e wa ⟨rfl, hBa⟩
       have kRa := kR8.below' hBa
       have kRb := kRa.alloc (.cells #[.int .i64 5, .string sPlace, .bool false, .slice A9 2 c9, .func (.func 31) #[] #[], .func (.func 40) #[] #[]] 44)
       have hBa' := hB8'.trans (hBa.mono hB8'.size)
       have hBb' := hBa'.alloc hBa'.size (.cells #[.int .i64 5, .string sPlace, .bool false, .slice A9 2 c9, .func (.func 31) #[] #[], .func (.func 40) #[] #[]] 44)
       have y0 := kRb.cell 0 (.int .i64 0) rfl
       have x0 := kRb.frozen 0
       have kRc := kRb.set_ 0 (.int .i64 0)
       have y1 := kRc.cell 1 (.int .i64 0) rfl
       have x1 := kRc.frozen 1
       have kRd := kRc.set_ 1 (.int .i64 0)
       have y2 := kRd.cell 2 (.int .i64 0) rfl
       have x2 := kRd.frozen 2
       have kRe := kRd.set_ 2 (.int .i64 0)
       have y3 := kRe.cell 3 (.int .i64 0) rfl
       have x3 := kRe.frozen 3
       have kRf := kRe.set_ 3 (.int .i64 0)
       have bxl := kRb.lt)
    | fail)
  refine fltc_ret2 rfl rfl (g := w.heap.size) (by simpa using kRf) rfl ?_
  refine ⟨rfl, ?_⟩
  exact Below.setCell (Below.setCell (Below.setCell (Below.setCell hBb' (p := ⟨w.heap.size, 0, none⟩) (Nat.le_refl _) _) (p := ⟨w.heap.size, 1, none⟩) (Nat.le_refl _) _) (p := ⟨w.heap.size, 2, none⟩) (Nat.le_refl _) _) (p := ⟨w.heap.size, 3, none⟩) (Nat.le_refl _) _
end Go.Proofs.YtblifdchofihoaaGreatDoor
