/- words: read. -/
import Derived.Test.YtohcmfobnkaaiaaGreatDoorWNum
set_option linter.unusedSimpArgs false
set_option linter.unusedVariables false
namespace Go.Proofs.YtohcmfobnkaaiaaGreatDoor
open Go Go.RowKit Tor

theorem partc_ret2 {fn : Func} {p u : Tmp} (h : fn.results = #[.cell p 61, .tmp u]) {R : Ending → World → Prop} {a : Act} {w : World} {g : Nat} {x y z : Value} (hp : a.tmps.getD p undef = .pointer (some ⟨g, 0, none⟩))
    (hb : Blk w g 61 #[x, y, z]) (hd : a.defers = []) (hR : R (.returned (.tuple #[.agg #[x, y, z], a.tmps.getD u undef])) w) : bodyPost Tryz.prog fn R .ret a w := by
  refine bodyPost_ret (v := .tuple #[.agg #[x, y, z], a.tmps.getD u undef]) ?_ hd hR
  have c0 := hb.cell 0 x rfl
  have c1 := hb.cell 1 y rfl
  have c2 := hb.cell 2 z rfl
  have hp' : a.tmps[p]?.getD undef = .pointer (some ⟨g, 0, none⟩) := by simpa using hp
  simp only [results, h]
  simp [Sem.run_bind, Result.andThen, hp']
  go_simp
def partV (x : Part) : Value := .agg #[.int .i64 x.a, .int .i64 x.b, .int .i64 x.t]
theorem bN_take (L : List UInt8) (k : Nat) : (bN L).extract 0 k = bN (L.take k) := ByteArray.ext (Array.ext' (by rw [ByteArray.data_extract]; simp [bN]))
theorem bN_drop (L : List UInt8) (k : Nat) : (bN L).extract k L.length = bN (L.drop k) := ByteArray.ext (Array.ext' (by rw [ByteArray.data_extract]; simp [bN]; exact List.take_of_length_le (by simp)))
theorem indexAny_lt : ∀ (L : List UInt8) (c : List UInt8), Lib.indexAny L c < L.length
  | [], c => by simp [Lib.indexAny]
  | b :: l, c => by
    have := indexAny_lt l c
    unfold Lib.indexAny
    simp only [List.length_cons]
    split
    · omega
    · split <;> omega

set_option maxRecDepth 100000 in
set_option maxHeartbeats 4000000 in
theorem read_any (L : List UInt8) (w : World) (hs : L.length ≤ 1000000) (h : WdAt w)
    (hX : ∀ w, Calls Tryz.prog 36 #[.string (bN L), .string ⟨#[45, 120]⟩] w (Ret (.int .i64 (Lib.indexAny L [45, 120])) w)) :
    Calls Tryz.prog 21 #[.string (bN L)] w (Ret (.tuple #[partV (readP L).1, .bool (readP L).2]) w) := by
  have HX := Lib.hid hX
  clear hX
  have h1 : WdAt (w.alloc (.cells #[.int .i64 0, .int .i64 0, .int .i64 0] 61)) := h.below (by (repeat' first | exact Below.refl _ _ | apply Below.drew | (refine Below.setCells ?_ _ _ ?_) | (refine Below.setCell ?_ ?_ _) | (refine Below.alloc ?_ ?_ _) | (simp; done) | (simp; omega)))
  have kP := Blk.new w 61 #[.int .i64 0, .int .i64 0, .int .i64 0]
  have hBB : Below w.heap.size w (w.alloc (.cells #[.int .i64 0, .int .i64 0, .int .i64 0] 61)) := by (repeat' first | exact Below.refl _ _ | apply Below.drew | (refine Below.setCells ?_ _ _ ?_) | (refine Below.setCell ?_ ?_ _) | (refine Below.alloc ?_ ?_ _) | (simp; done) | (simp; omega))
  have hlt := indexAny_lt L [45, 120]
  obtain ⟨k, hk⟩ : ∃ k, Hid (Lib.indexAny L [45, 120] = k) := ⟨_, Lib.hid rfl⟩
  rw [hk.out] at HX hlt
  by_cases h0 : k < 0
  · have hP : Hid (readP L = (⟨(natP L).1, (natP L).1, 1⟩, (natP L).2)) := by rw [Hid]; unfold readP; simp only [hk.out, h0, if_true]
    rw [hP.out]
    have HN := Lib.hid (fun w (hw : WdAt w) => natural_any L w hs hw)
    obtain ⟨n1, hn1⟩ : ∃ n, Hid ((natP L).1 = n) := ⟨_, Lib.hid rfl⟩
    obtain ⟨n2, hn2⟩ : ∃ n, Hid ((natP L).2 = n) := ⟨_, Lib.hid rfl⟩
    simp only [hn1.out, hn2.out] at HN ⊢
    clear hP hn1 hn2 hk
    unfold partV
    go_enter Tryz.func21, Tryz.ntmps21
    go_wp2_with (first
      | (go_at_call 36
         refine (HX.out _).mono ?_
         rintro e w1 ⟨rfl, hB1⟩
         have hB1' := hBB.trans (hB1.mono hBB.size)
         have kP1 := kP.below' hB1
         have hw1 := h1.below hB1)
      | (go_at_call 37
         refine (HN.out _ hw1).mono ?_
         rintro e w2 ⟨rfl, hB2⟩
         have hB2' := hB1'.trans (hB2.mono hB1'.size)
         have kP2 := kP1.below' hB2
         have q0 := kP2.cell 0 _ rfl
         have q1 := kP2.cell 1 _ rfl
         have q2 := kP2.cell 2 _ rfl
         have f0 := kP2.frozen 0
         have f1 := kP2.frozen 1
         have f2 := kP2.frozen 2
         have l0 := kP2.lt)
      | fail)
    refine partc_ret2 rfl rfl (((kP2.set_ 0 _).set_ 1 _).set_ 2 _) rfl ?_
    exact ⟨rfl, ((hB2'.setCell (p := ⟨w.heap.size, 0, none⟩) (Nat.le_refl _) _).setCell (p := ⟨w.heap.size, 1, none⟩) (Nat.le_refl _) _).setCell (p := ⟨w.heap.size, 2, none⟩) (Nat.le_refl _) _⟩
  · obtain ⟨n, rfl⟩ : ∃ n : Nat, k = n := ⟨k.toNat, by omega⟩
    have hn : n < L.length := by omega
    obtain ⟨A, hA⟩ : ∃ A, Hid (L.take n = A) := ⟨_, Lib.hid rfl⟩
    obtain ⟨B, hB⟩ : ∃ B, Hid (L.drop (n + 1) = B) := ⟨_, Lib.hid rfl⟩
    have sA : A.length ≤ 1000000 := by rw [← hA.out, List.length_take]; omega
    have sB : B.length ≤ 1000000 := by rw [← hB.out, List.length_drop]; omega
    have e1 : (bN L).extract 0 n = bN A := by rw [bN_take, hA.out]
    have e2 : (bN L).extract (n + 1) (bN L).size = bN B := by rw [← hB.out]; exact bN_drop L (n + 1)
    have tA : (bN A).toList = A := Lib.toList_data _
    have tB : (bN B).toList = B := Lib.toList_data _
    have HA := Lib.hid (fun w (hw : WdAt w) => natural_any A w sA hw)
    have HB := Lib.hid (fun w (hw : WdAt w) => natural_any B w sB hw)
    have hsz : n < (bN L).size := hn
    obtain ⟨c, hc⟩ : ∃ c, Hid (L[n]'hn = c) := ⟨_, Lib.hid rfl⟩
    have hz : (bN L)[n]'hsz = c := hc.out
    have hP : Hid (readP L = if c = 45 then (⟨(natP A).1, (natP B).1, 1⟩, (natP A).2 && ((natP B).2 && ltB A B)) else (⟨(natP B).1, (natP B).1, (natP A).1⟩, (natP A).2 && ((natP B).2 && decide (2 ≤ (natP A).1)))) := by
      rw [Hid]; unfold readP; simp only [hk.out, h0, if_false, Int.toNat_natCast, hA.out, hB.out]
      rw [List.getElem?_eq_getElem hn, hc.out]
      simp
    rw [hP.out]
    obtain ⟨n1, hn1⟩ : ∃ n, Hid ((natP A).1 = n) := ⟨_, Lib.hid rfl⟩
    obtain ⟨i1, hi1⟩ : ∃ n, Hid ((natP A).2 = n) := ⟨_, Lib.hid rfl⟩
    obtain ⟨n2, hn2⟩ : ∃ n, Hid ((natP B).1 = n) := ⟨_, Lib.hid rfl⟩
    obtain ⟨i2, hi2⟩ : ∃ n, Hid ((natP B).2 = n) := ⟨_, Lib.hid rfl⟩
    obtain ⟨r, hr⟩ : ∃ r, Hid (ltB A B = r) := ⟨_, Lib.hid rfl⟩
    simp only [hn1.out, hn2.out, hi1.out, hi2.out, hr.out] at HA HB ⊢
    obtain ⟨la, hla⟩ : ∃ la, (bN A).size = la := ⟨_, rfl⟩
    obtain ⟨lb, hlb⟩ : ∃ lb, (bN B).size = lb := ⟨_, rfl⟩
    have hL : Hid (ltB A B = (decide (la < lb) || (decide (la = lb) && Op.bytesLess A B))) := by rw [Hid]; unfold ltB; rw [show A.length = la from hla, show B.length = lb from hlb]
    clear hP hn1 hn2 hi1 hi2 hk sA sB hA hB hc h0 h hn
    have hrises : (decide (la < lb) = true ∧ r = true) ∨ (la = lb ∧ Op.bytesLess A B = r) ∨ (decide (la < lb) = false ∧ (¬ (la : Int) = lb) ∧ r = false) := by
      rw [← hr.out, hL.out]
      rcases Nat.lt_trichotomy la lb with h | h | h
      · left; exact ⟨decide_eq_true h, by rw [decide_eq_true h]; rfl⟩
      · right; left; subst h; exact ⟨rfl, by simp⟩
      · right; right; exact ⟨decide_eq_false (by omega), by omega, by rw [decide_eq_false (by omega), decide_eq_false (by omega)]; rfl⟩
    clear hr hL
    unfold partV
    by_cases h45 : c = 45
    · rw [if_pos h45]
      have b1 : ((c.toNat : Int) == 45) = true := by rw [h45]; rfl
      clear h45
      rcases hrises with ⟨d1, rfl⟩ | ⟨rfl, rfl⟩ | ⟨d1, d2, rfl⟩ <;> cases i1 <;> cases i2
      all_goals
        go_enter Tryz.func21, Tryz.ntmps21
        have tk1 := True.intro
        have tk2 := True.intro
        go_wp2_with (first
          | (have := tk1
             go_at_call 36
             refine (HX.out _).mono ?_
             rintro e w1 ⟨rfl, hB1⟩
             have hB1' := hBB.trans (hB1.mono hBB.size)
             have kP1 := kP.below' hB1
             have hw1 := h1.below hB1
             clear tk1)
          | fail)
        go_region
        have hD : Below w1.heap.size w1 w1.drew := (Below.refl _ _).drew
        have kPd := kP1.below' hD
        have hwd := hw1.below hD
        have hBd := hB1'.trans (hD.mono hB1'.size)
        go_wp2_with (first
          | (have := tk2
             go_at_call 37
             refine (HA.out _ hwd).mono ?_
             rintro e w2 ⟨rfl, hB2⟩
             have hB2' := hBd.trans (hB2.mono hBd.size)
             have kP2 := kPd.below' hB2
             have hw2 := hwd.below hB2
             clear tk2)
          | (go_at_call 37
             refine (HB.out _ hw2).mono ?_
             rintro e w3 ⟨rfl, hB3⟩
             have hB3' := hB2'.trans (hB3.mono hB2'.size)
             have kP3 := kP2.below' hB3
             have q0 := kP3.cell 0 _ rfl
             have q1 := kP3.cell 1 _ rfl
             have q2 := kP3.cell 2 _ rfl
             have f0 := kP3.frozen 0
             have f1 := kP3.frozen 1
             have f2 := kP3.frozen 2
             have l0 := kP3.lt)
          | fail)
        refine partc_ret2 rfl rfl (((kP3.set_ 0 _).set_ 1 _).set_ 2 _) rfl ?_
        exact ⟨rfl, ((hB3'.setCell (p := ⟨w.heap.size, 0, none⟩) (Nat.le_refl _) _).setCell (p := ⟨w.heap.size, 1, none⟩) (Nat.le_refl _) _).setCell (p := ⟨w.heap.size, 2, none⟩) (Nat.le_refl _) _⟩
    · rw [if_neg h45]
      have b1 : ((c.toNat : Int) == 45) = false := by
        rw [beq_eq_false_iff_ne]; intro hh; exact h45 (UInt8.toNat.inj (by show c.toNat = 45; omega))
      clear h45
      by_cases g2 : 2 ≤ n1
      · rw [decide_eq_true g2]
        rcases hrises with ⟨d1, rfl⟩ | ⟨rfl, rfl⟩ | ⟨d1, d2, rfl⟩ <;> cases i1 <;> cases i2
        all_goals
          go_enter Tryz.func21, Tryz.ntmps21
          have tk1 := True.intro
          have tk2 := True.intro
          go_wp2_with (first
            | (have := tk1
               go_at_call 36
               refine (HX.out _).mono ?_
               rintro e w1 ⟨rfl, hB1⟩
               have hB1' := hBB.trans (hB1.mono hBB.size)
               have kP1 := kP.below' hB1
               have hw1 := h1.below hB1
               clear tk1)
            | fail)
          go_region
          have hD : Below w1.heap.size w1 w1.drew := (Below.refl _ _).drew
          have kPd := kP1.below' hD
          have hwd := hw1.below hD
          have hBd := hB1'.trans (hD.mono hB1'.size)
          go_wp2_with (first
            | (have := tk2
               go_at_call 37
               refine (HA.out _ hwd).mono ?_
               rintro e w2 ⟨rfl, hB2⟩
               have hB2' := hBd.trans (hB2.mono hBd.size)
               have kP2 := kPd.below' hB2
               have hw2 := hwd.below hB2
               clear tk2)
            | (go_at_call 37
               refine (HB.out _ hw2).mono ?_
               rintro e w3 ⟨rfl, hB3⟩
               have hB3' := hB2'.trans (hB3.mono hB2'.size)
               have kP3 := kP2.below' hB3
               have q0 := kP3.cell 0 _ rfl
               have q1 := kP3.cell 1 _ rfl
               have q2 := kP3.cell 2 _ rfl
               have f0 := kP3.frozen 0
               have f1 := kP3.frozen 1
               have f2 := kP3.frozen 2
               have l0 := kP3.lt)
            | fail)
          refine partc_ret2 rfl rfl (((kP3.set_ 0 _).set_ 1 _).set_ 2 _) rfl ?_
          exact ⟨rfl, ((hB3'.setCell (p := ⟨w.heap.size, 0, none⟩) (Nat.le_refl _) _).setCell (p := ⟨w.heap.size, 1, none⟩) (Nat.le_refl _) _).setCell (p := ⟨w.heap.size, 2, none⟩) (Nat.le_refl _) _⟩
      · have g3 := decide_eq_false g2
        rw [g3]
        rcases hrises with ⟨d1, rfl⟩ | ⟨rfl, rfl⟩ | ⟨d1, d2, rfl⟩ <;> cases i1 <;> cases i2
        all_goals
          go_enter Tryz.func21, Tryz.ntmps21
          have tk1 := True.intro
          have tk2 := True.intro
          go_wp2_with (first
            | (have := tk1
               go_at_call 36
               refine (HX.out _).mono ?_
               rintro e w1 ⟨rfl, hB1⟩
               have hB1' := hBB.trans (hB1.mono hBB.size)
               have kP1 := kP.below' hB1
               have hw1 := h1.below hB1
               clear tk1)
            | fail)
          go_region
          have hD : Below w1.heap.size w1 w1.drew := (Below.refl _ _).drew
          have kPd := kP1.below' hD
          have hwd := hw1.below hD
          have hBd := hB1'.trans (hD.mono hB1'.size)
          go_wp2_with (first
            | (have := tk2
               go_at_call 37
               refine (HA.out _ hwd).mono ?_
               rintro e w2 ⟨rfl, hB2⟩
               have hB2' := hBd.trans (hB2.mono hBd.size)
               have kP2 := kPd.below' hB2
               have hw2 := hwd.below hB2
               clear tk2)
            | (go_at_call 37
               refine (HB.out _ hw2).mono ?_
               rintro e w3 ⟨rfl, hB3⟩
               have hB3' := hB2'.trans (hB3.mono hB2'.size)
               have kP3 := kP2.below' hB3
               have q0 := kP3.cell 0 _ rfl
               have q1 := kP3.cell 1 _ rfl
               have q2 := kP3.cell 2 _ rfl
               have f0 := kP3.frozen 0
               have f1 := kP3.frozen 1
               have f2 := kP3.frozen 2
               have l0 := kP3.lt)
            | fail)
          refine partc_ret2 rfl rfl (((kP3.set_ 0 _).set_ 1 _).set_ 2 _) rfl ?_
          exact ⟨rfl, ((hB3'.setCell (p := ⟨w.heap.size, 0, none⟩) (Nat.le_refl _) _).setCell (p := ⟨w.heap.size, 1, none⟩) (Nat.le_refl _) _).setCell (p := ⟨w.heap.size, 2, none⟩) (Nat.le_refl _) _⟩
end Go.Proofs.YtohcmfobnkaaiaaGreatDoor
