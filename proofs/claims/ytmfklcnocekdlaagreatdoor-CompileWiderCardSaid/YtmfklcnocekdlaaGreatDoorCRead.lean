/- compile: a line of instructions is read. -/
import Derived.Test.YtmfklcnocekdlaaGreatDoorCpTxM
import Derived.Test.YtmfklcnocekdlaaGreatDoorNum
import Derived.Lib.SmallJoins
import Derived.Test.YtmfklcnocekdlaaGreatDoorShelf
set_option linter.unusedSimpArgs false
set_option linter.unusedVariables false
namespace Go.Proofs.YtmfklcnocekdlaaGreatDoor
open Go Go.RowKit Tor

/-- what the library's variables hold -/
structure CpAt (w : World) : Prop where
  ml : ∃ m, w.cell? ⟨0, 0, none⟩ = some (.int .i64 m)
  tab : Lib.TabIs Tryz.prog w "internal/strconv.uint64pow10" .u64 Lib.pow10Tab
  err : ErrAt w
theorem CpAt.below {w w' : World} (h : CpAt w) (hB : Below w.heap.size w w') : CpAt w' := by
  obtain ⟨⟨m, hm⟩, h2, h3⟩ := h
  exact ⟨⟨m, (hB.cell (p := ⟨0, 0, none⟩) (lt_of_cell hm)).trans hm⟩, Joins.tab_stays (g := 1) (by kernel_rfl) h2 hB (Nat.le_refl _), h3.below hB⟩
theorem none_any (rest : List UInt8) (p : Value) (w : World) : Calls Tryz.prog 72 #[.string (bN rest), p] w (Ret (.bool (decide (rest = []))) w) := by
  have t1 : (bN rest).toList = rest := Lib.toList_data _
  by_cases h : rest = []
  · subst h
    rw [decide_eq_true rfl]
    go_enter Tryz.func72, Tryz.ntmps72
    go_wp2_with fail
    go_ret
    exact ⟨by simp, Below.refl _ _⟩
  · rw [decide_eq_false h]
    have h1 : (rest == []) = false := beq_eq_false_iff_ne.2 h
    have h2 : rest.isEmpty = false := by cases rest with | nil => exact absurd rfl h | cons _ _ => rfl
    clear h
    go_enter Tryz.func72, Tryz.ntmps72
    go_wp2_with fail
    go_ret
    exact ⟨by simp [h1, h2], Below.refl _ _⟩
/-- the word is read into the step at block b -/
def WRead (w : World) (b : Nat) (n : Int) (rest : List UInt8) (e : Ending) (w' : World) : Prop :=
  ∃ s : ByteArray, e = .returned (.bool (tailW 2 rest).isSome) ∧ Blk w' b 52 #[.int .i64 2, .int .i64 n, .string s] ∧ (∀ v, tailW 2 rest = some v → s = bN v) ∧ w.grownBy w' (some b)
theorem grown_below {w w' : World} (b : Nat) (h : Below w.heap.size w w') : w.grownBy w' (some b) := ⟨h.os, h.tape, h.output, h.size, fun k hk _ => h.block k hk⟩
theorem grown_set {w w1 w2 : World} {b : Nat} {v : Value} (h : Below (w.setCell ⟨b, 2, none⟩ v).heap.size (w.setCell ⟨b, 2, none⟩ v) w1) : w.grownBy w1 (some b) := by
  have hs : (w.setCell ⟨b, 2, none⟩ v).heap.size = w.heap.size := by simp [World.setCell]
  refine ⟨h.os, h.tape, h.output, by have := h.size; omega, fun k hk hne => ?_⟩
  rw [h.block k (by omega)]
  exact Below.heap_setCell w ⟨b, 2, none⟩ v k (fun e => hne (congrArg some e))
set_option maxRecDepth 100000 in
set_option maxHeartbeats 2000000 in
theorem wread_any (rest : List UInt8) (n : Int) (b : Nat) (w : World) (hl : rest.length ≤ 1000000) (kX : Blk w b 52 #[.int .i64 2, .int .i64 n, .string ByteArray.empty]) :
    Calls Tryz.prog 74 #[.string (bN rest), .pointer (some ⟨b, 0, none⟩)] w (WRead w b n rest) := by
  have HC := Lib.hid (fun w' => Tryz.strings_CutPrefix (bN rest) ⟨#[32]⟩ w')
  have q2 := kX.cell 2 _ rfl
  have f2 := kX.frozen 2
  have l2 := kX.lt
  have e0 : (bN rest).data.toList = rest := rfl
  have e1 : (⟨#[32]⟩ : ByteArray).data.toList = [32] := rfl
  rw [e0, e1] at HC
  clear e0 e1
  cases rest with
  | nil =>
    have h1 : Lib.trimPrefix [] [32] = [] := rfl
    have h2 : Lib.hasPrefix [] [32] = false := rfl
    rw [h1, h2] at HC
    clear h1 h2
    go_enter Tryz.func74, Tryz.ntmps74
    go_wp2_with fail
    refine (HC.out _).mono ?_
    rintro e w1 ⟨rfl, rfl⟩
    go_wp2_with fail
    go_ret
    exact ⟨ByteArray.empty, rfl, kX, fun v hv => (by simp [tailW] at hv), grown_below b (Below.refl _ _)⟩
  | cons c v =>
    by_cases hc : c = 32
    · subst hc
      have h1 : Lib.trimPrefix (32 :: v) [32] = v := rfl
      have h2 : Lib.hasPrefix (32 :: v) [32] = true := rfl
      rw [h1, h2] at HC
      clear h1 h2
      have tv : (bN v).toList = v := Lib.toList_data _
      have hT : Hid (tailW 2 (32 :: v) = if v = [] then none else if v = [45] then some [] else if wordE (bN v) = 0 then some v else none) := Lib.hid rfl
      by_cases h0 : v = []
      · subst h0
        have hT2 : Hid (tailW 2 [32] = none) := Lib.hid rfl
        clear hT
        go_enter Tryz.func74, Tryz.ntmps74
        go_wp2_with fail
        refine (HC.out _).mono ?_
        rintro e w1 ⟨rfl, rfl⟩
        go_wp2_with fail
        go_ret
        exact ⟨ByteArray.empty, by rw [hT2.out]; rfl, kX, fun v hv => (by rw [hT2.out] at hv; cases hv), grown_below b (Below.refl _ _)⟩
      have n1 : (v == []) = false := beq_eq_false_iff_ne.2 h0
      have n2 : v.isEmpty = false := by cases v with | nil => exact absurd rfl h0 | cons _ _ => rfl
      have H0 := Lib.hid h0
      clear h0
      by_cases h45 : v = [45]
      · subst h45
        have hT2 : Hid (tailW 2 [32, 45] = some []) := Lib.hid rfl
        have HW := Lib.hid (fun w' => word_any ByteArray.empty w' (by decide))
        rw [show wordE ByteArray.empty = 0 by decide] at HW
        clear hT H0
        go_enter Tryz.func74, Tryz.ntmps74
        go_wp2_with fail
        refine (HC.out _).mono ?_
        rintro e w1 ⟨rfl, rfl⟩
        go_wp2_with fail
        refine (HW.out _).mono ?_
        rintro e w2 ⟨rfl, hB2⟩
        go_wp2_with fail
        go_ret
        exact ⟨ByteArray.empty, by rw [hT2.out]; rfl, kX.below' hB2, fun v hv => (by rw [hT2.out] at hv; cases hv; rfl), grown_below b hB2⟩
      · have m1 : (v != [45]) = true := by rw [bne_iff_ne]; exact h45
        have m1' : (v == [45]) = false := beq_eq_false_iff_ne.2 h45
        have HW := Lib.hid (fun w' => word_any (bN v) w' (by show v.length ≤ _; simp at hl; omega))
        have hT2 : Hid (tailW 2 (32 :: v) = if wordE (bN v) = 0 then some v else none) := by rw [Hid, hT.out, if_neg H0.out, if_neg h45]
        obtain ⟨E, hE⟩ : ∃ E, Hid (wordE (bN v) = E) := ⟨_, Lib.hid rfl⟩
        rw [hE.out] at HW hT2
        have kS := kX.set_ 2 (.string (bN v))
        clear hT h45 hE
        go_enter Tryz.func74, Tryz.ntmps74
        go_wp2_with fail
        refine (HC.out _).mono ?_
        rintro e w1 ⟨rfl, rfl⟩
        go_wp2_with fail
        refine (HW.out _).mono ?_
        rintro e w2 ⟨rfl, hB2⟩
        by_cases hE0 : E = 0
        · subst hE0
          go_wp2_with fail
          go_ret
          exact ⟨bN v, by rw [hT2.out]; rfl, kS.below' hB2, fun u hu => (by rw [hT2.out] at hu; cases hu; rfl), grown_set (w2 := w2) hB2⟩
        · have z0 : (E == 0) = false := beq_eq_false_iff_ne.2 hE0
          rw [if_neg hE0] at hT2
          go_wp2_with fail
          go_ret
          exact ⟨bN v, by rw [hT2.out]; rfl, kS.below' hB2, fun u hu => (by rw [hT2.out] at hu; cases hu), grown_set (w2 := w2) hB2⟩
    · have h2 : Lib.hasPrefix (c :: v) [32] = false := by simp [Lib.hasPrefix, List.isPrefixOf]; exact fun e => hc e.symm
      rw [h2] at HC
      have hT : Hid (tailW 2 (c :: v) = none) := by rw [Hid]; unfold tailW; rw [if_pos rfl]; simp only; rw [if_neg hc]
      clear h2 hc
      go_enter Tryz.func74, Tryz.ntmps74
      go_wp2_with fail
      refine (HC.out _).mono ?_
      rintro e w1 ⟨rfl, rfl⟩
      go_wp2_with fail
      go_ret
      exact ⟨ByteArray.empty, by rw [hT.out]; rfl, kX, fun v hv => (by rw [hT.out] at hv; cases hv), grown_below b (Below.refl _ _)⟩
end Go.Proofs.YtmfklcnocekdlaaGreatDoor
