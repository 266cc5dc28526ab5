/- torchonlaw15: CompileTexts. -/
import Derived.Test.YtmfklcnocekdlaaGreatDoorRCp4
import Derived.Test.YtmfklcnocekdlaaGreatDoorRCp2
import Derived.Test.YtmfklcnocekdlaaGreatDoorOldA5
set_option linter.unusedSimpArgs false
set_option linter.unusedVariables false
namespace Go.Proofs.YtmfklcnocekdlaaGreatDoor
open Go Go.RowKit Tor

theorem goC_len : ∀ (ls : List (List UInt8)) (k : Nat) (acc : List Tri), (goC k acc ls).1.length ≤ acc.length + ls.length
  | [], k, acc => by unfold goC; simp
  | [s], k, acc => by unfold goC; split; · simp
                      split <;> simp
  | s :: t :: r, k, acc => by
    unfold goC
    split
    · simp
    · cases readC s with
      | none => simp
      | some x =>
        have := goC_len (t :: r) (k + 1) (acc ++ [x])
        simp only [List.length_append, List.length_cons, List.length_nil] at this ⊢
        omega
theorem parseC_len (L : List UInt8) : (parseC L).1.length ≤ L.length + 1 := by
  unfold parseC
  split
  · simp
  · have := goC_len (spl 10 L) 1 []
    have := spl_length 10 L
    have := List.count_le_length (a := (10 : UInt8)) (l := L)
    simp only [List.length_nil] at *
    omega
set_option maxRecDepth 100000 in
set_option maxHeartbeats 8000000 in
theorem lawTexts_any (A : Option Addr) (l : List Tri) (c : Nat) (L : List UInt8) (w : World) (h : CpAt w) (hr : RdT w w.heap.size A l) (hl : l.length ≤ 9223372036854775807) (hL : L.length ≤ 9223372036854775807)
    (hs : ∀ (k : Nat) (hk : k < l.length), l[k].s.size ≤ 9223372036854775807) :
    Calls Tryz.prog 3 #[.slice A l.length c, .string (bN L)] w (Ret (.bool true) w) := by
  have hz : (bN L).size = L.length := rfl
  have HS := Lib.hid (fun (w' : World) => awake_any w')
  by_cases h1 : 1100 < l.length
  · have i1 : (1100 : Int) < l.length := by omega
    have HX := Lib.hid hs
    clear h1 hs
    go_enter Tryz.func3, Tryz.ntmps3
    go_wp2_with fail
    refine (HS.out _).mono ?_
    rintro e w1 ⟨rfl, hB1⟩
    go_wp2_with fail
    go_ret
    exact ⟨rfl, hB1⟩
  have i1 : ¬ (1100 : Int) < l.length := by omega
  by_cases h2 : 45000 < L.length
  · have i2 : (45000 : Int) < L.length := by omega
    have HX := Lib.hid hs
    clear h1 h2 hs
    go_enter Tryz.func3, Tryz.ntmps3
    go_wp2_with fail
    refine (HS.out _).mono ?_
    rintro e w1 ⟨rfl, hB1⟩
    go_wp2_with fail
    go_ret
    exact ⟨rfl, hB1⟩
  have i2 : ¬ (45000 : Int) < L.length := by omega
  have H1 := Lib.hid (fun w' hr' (hH : w.heap.size ≤ w'.heap.size) => (show Calls Tryz.prog 7 #[.slice A l.length c] w' fun e w'' => e = .returned (.tuple #[.string (bN (printR l).1), .int .i64 (printR l).2]) ∧ Below w'.heap.size w' w'' from cprint_any A l c w' w.heap.size hr' hH hl hs))
  have H2 := Lib.hid (fun w' hr' (hH : w.heap.size ≤ w'.heap.size) => rprint15_any A l c w' w.heap.size hr' hH hs)
  have H3 := Lib.hid (fun w' hw' => cparse_any L w' hw' (by omega))
  have H4 := Lib.hid (fun w' => rparse15_any L w' (by omega))
  obtain ⟨⟨t, n⟩, ht⟩ : ∃ x, Hid (printR l = x) := ⟨_, Lib.hid rfl⟩
  obtain ⟨⟨m, ln, en⟩, hm⟩ : ∃ x, Hid (parseC L = x) := ⟨_, Lib.hid rfl⟩
  have hml : m.length ≤ 45001 := by have := parseC_len L; rw [hm.out] at this; simp only at this; omega
  rw [ht.out] at H1 H2
  rw [hm.out] at H3 H4
  obtain ⟨S, hS⟩ : ∃ S, Hid (bN t = S) := ⟨_, Lib.hid rfl⟩
  dsimp only at H1 H2
  rw [hS.out] at H1 H2
  obtain ⟨K, hK⟩ : ∃ K : Int, Hid ((ln : Int) = K) := ⟨_, Lib.hid rfl⟩
  have HML := Lib.hid hml
  have HR := Lib.hid hr
  clear h1 h2 hs hml hr
  go_enter Tryz.func3, Tryz.ntmps3
  go_wp2_with fail
  refine (H1.out _ HR.out (Nat.le_refl _)).mono ?_
  rintro e w1 ⟨rfl, hB1⟩
  go_wp2_with fail
  refine (H2.out _ (HR.out.below hB1) hB1.size).mono ?_
  rintro e w2 ⟨rfl, hB2⟩
  have q2 := hB1.trans (hB2.mono hB1.size)
  go_wp2_with fail
  refine (H3.out _ (h.below q2)).mono ?_
  rintro e w3 ⟨v3, rfl, ho3, hB3⟩
  dsimp only at ho3 ⊢
  rw [hK.out]
  obtain ⟨A3, c3, rfl, _, hr3⟩ := Own.rd tri_len ho3
  have q3 := q2.trans (hB3.mono q2.size)
  go_wp2_with fail
  refine (H4.out _).mono ?_
  rintro e w4 ⟨v4, rfl, ho4, hB4⟩
  dsimp only at ho4 ⊢
  rw [hK.out]
  obtain ⟨A4, c4, rfl, _, hr4⟩ := Own.rd tri_len ho4
  have q4 := q3.trans (hB4.mono q3.size)
  have hr34 := (hr3.below hB4).more hB4.size
  have HX := Lib.hid (sameSteps_any A3 A4 m m c3 c4 w4 w4.heap.size (by have := HML.out; omega) hr34 hr4 (Nat.le_refl _))
  rw [decide_eq_true (rfl : m = m)] at HX
  go_wp2_with fail
  refine HX.out.mono ?_
  rintro e w5 ⟨rfl, hB5⟩
  have q5 := q4.trans (hB5.mono q4.size)
  go_wp2_with fail
  refine (HS.out _).mono ?_
  rintro e w6 ⟨rfl, hB6⟩
  go_wp2_with fail
  go_ret
  exact ⟨rfl, q5.trans (hB6.mono q5.size)⟩
end Go.Proofs.YtmfklcnocekdlaaGreatDoor
