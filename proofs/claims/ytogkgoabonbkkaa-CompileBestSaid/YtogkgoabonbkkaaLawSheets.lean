/- The law CompileSheets, walked. -/
import Derived.Test.YtogkgoabonbkkaaCSheet
import Derived.Test.YtogkgoabonbkkaaLawSteps
set_option linter.unusedSimpArgs false
set_option linter.unusedVariables false
namespace Go.Proofs.Ytogkgoabonbkkaa
open Go Go.RowKit Tor

theorem same_eq (A B : Option Addr) (l : List Tri) (p : Int) (c d : Nat) (w : World) (H : Nat) (hl : l.length ≤ 100000) (ha : RdT w H A l) (hb : RdT w H B l) (hH : H ≤ w.heap.size) :
    Calls Try.prog 21 #[.agg #[.int .i64 p, .slice A l.length c], .agg #[.int .i64 p, .slice B l.length d]] w (Ret (.bool true) w) :=
  (same_any A B l l p p c d w H (by omega) ha hb hH).mono fun e w' ⟨h1, h2⟩ => ⟨by rw [h1]; simp, h2⟩
theorem stS_len (l : List Tri) : ∀ k, (stS l k).2.length ≤ k
  | 0 => by simp [stS]
  | k + 1 => by
    have := stS_len l k
    unfold stS
    split
    · simp only; omega
    · simp only [List.length_append, List.length_singleton]; omega
theorem finS_len {p s : Int} {l : List Tri} : ∀ n k, (finS p s l n k).2.1.length ≤ n + k
  | 0, k => by have := stS_len l k; simp only [finS]; omega
  | n + 1, k => by
    unfold finS
    split
    · have := finS_len (p := p) (s := s) (l := l) n (k + 1); omega
    · simp
theorem sheetR_len {p s : Int} {l : List Tri} : (sheetR p s l).2.1.length ≤ l.length := by
  unfold sheetR
  split
  · simp
  · split
    · simp
    · exact finS_len _ _

set_option maxRecDepth 100000 in
set_option maxHeartbeats 1000000 in
theorem lawSheets_any (P S : Int) (A : Option Addr) (l : List Tri) (c : Nat) (w : World) (H : Nat) (hr : RdT w H A l) (hH : H ≤ w.heap.size)
    (hw : ∀ (k : Nat) (hk : k < l.length), l[k].s.size ≤ 9223372036854775807) (hl : l.length ≤ 9223372036854775807) :
    Calls Try.prog 9 #[.int .i64 P, .int .i64 S, .slice A l.length c] w (Ret (.bool true) w) := by
  have HW := Lib.hid hw
  clear hw
  have hrB : ∀ w', Below w.heap.size w w' → RdT w' H A l := fun w' hB => hr.below' hB hH
  have HRB := Lib.hid hrB
  clear hrB
  by_cases hfar : 1100 < l.length
  · have hl' : (1100 : Int) < (l.length : Int) := by omega
    go_enter Try.func9, Try.ntmps9
    go_wp2_with (first
      | (go_at_call 11; refine (awake_any _).mono ?_; rintro e w7 ⟨rfl, hB7⟩)
      | fail)
    go_ret
    exact Ret.bool rfl hB7
  · have hl' : ¬ (1100 : Int) < (l.length : Int) := by omega
    have hl2 : l.length ≤ 100000 := by omega
    obtain ⟨Q, hQ⟩ : ∃ Q, Hid ((sheetR P S l).1 = Q) := ⟨_, Lib.hid rfl⟩
    obtain ⟨M, hM⟩ : ∃ M, Hid ((sheetR P S l).2.1 = M) := ⟨_, Lib.hid rfl⟩
    obtain ⟨I, hI⟩ : ∃ I, Hid ((sheetR P S l).2.2.1 = I) := ⟨_, Lib.hid rfl⟩
    obtain ⟨E, hE⟩ : ∃ E, Hid ((sheetR P S l).2.2.2 = E) := ⟨_, Lib.hid rfl⟩
    obtain ⟨N, hN⟩ : ∃ N, Hid (reachesN l = N) := ⟨_, Lib.hid rfl⟩
    have hMn : M.length ≤ 100000 := by have := sheetR_len (p := P) (s := S) (l := l); rw [hM.out] at this; omega
    clear hfar
    go_enter Try.func9, Try.ntmps9
    go_wp2_with (first
      | (go_at_call 30; refine (csheet_any P S A l c w H (HRB.out _ (Below.refl _ _)) hH HW.out hl2).mono ?_; rintro e w2 ⟨v2, rfl, hown2, hB2⟩; rw [hM.out] at hown2; rw [hQ.out, hI.out, hE.out]
         obtain ⟨A2, c2, rfl, hc2, hd2⟩ := Own.rd tri_len hown2
         have hz2 := hB2.size
         have kX := Blk.new w2 24 #[.int .i64 Q, .slice A2 M.length c2]
         have hBX : Below w.heap.size w (w2.alloc (.cells #[.int .i64 Q, .slice A2 M.length c2] 24)) := hB2.alloc hz2 _
         have hdX : RdT (w2.alloc (.cells #[.int .i64 Q, .slice A2 M.length c2] 24)) w2.heap.size A2 M := hd2.below ((Below.refl _ _).alloc (Nat.le_refl _) _))
      | (go_at_call 20; refine (rsheet_any P S A l c _ H (HRB.out _ hBX) (by simp; omega) HW.out hl2).mono ?_; rintro e w3 ⟨v3, rfl, hown3, hB3⟩; rw [hM.out] at hown3; rw [hQ.out, hI.out, hE.out]
         obtain ⟨A3, c3, rfl, hc3, hd3⟩ := Own.rd tri_len hown3
         have hz3 := hB3.size
         have kX3 := (kX.below' hB3).alloc (.cells #[.int .i64 Q, .slice A3 M.length c3] 24)
         have kY := Blk.new w3 24 #[.int .i64 Q, .slice A3 M.length c3]
         have c0 := kX3.cell 0 _ rfl
         have c1 := kX3.cell 1 _ rfl
         have hBY0 : Below w.heap.size w w3 := hBX.trans (hB3.mono (by simp; omega))
         have hBY : Below w.heap.size w (w3.alloc (.cells #[.int .i64 Q, .slice A3 M.length c3] 24)) := hBY0.alloc hBY0.size _
         have hdX3 : RdT (w3.alloc (.cells #[.int .i64 Q, .slice A3 M.length c3] 24)) w3.heap.size A2 M := ((hdX.below' hB3 (by simp)).below' ((Below.refl w3.heap.size _).alloc (Nat.le_refl _) _) (by simp at hz3; omega)).more (by simp at hz3; omega)
         have hdY : RdT (w3.alloc (.cells #[.int .i64 Q, .slice A3 M.length c3] 24)) w3.heap.size A3 M := hd3.below ((Below.refl _ _).alloc (Nat.le_refl _) _))
      | (go_at_call 21; refine (same_eq A2 A3 M Q c2 c3 _ w3.heap.size hMn hdX3 hdY (by simp)).mono ?_; rintro e w4 ⟨rfl, hB4⟩
         have hB4' := hBY.trans (hB4.mono hBY.size))
      | (go_at_call 27; refine (creaches_any A l c _ H hl (HRB.out _ hB4') (Nat.le_trans hH hB4'.size)).mono ?_; rintro e w5 ⟨rfl, hB5⟩; rw [hN.out]
         have hB5' := hB4'.trans (hB5.mono hB4'.size))
      | (go_at_call 25; refine (rreaches_any A l c _ H hl (HRB.out _ hB5') (Nat.le_trans hH hB5'.size)).mono ?_; rintro e w6 ⟨rfl, hB6⟩; rw [hN.out]
         have hB6' := hB5'.trans (hB6.mono hB5'.size))
      | (go_at_call 11; refine (awake_any _).mono ?_; rintro e w7 ⟨rfl, hB7⟩))
    go_ret
    exact Ret.bool rfl (hB6'.trans (hB7.mono hB6'.size))
end Go.Proofs.Ytogkgoabonbkkaa
