/- best[int] with Quick's counting closure. -/
import Derived.Test.YtogkgoabonbkkaaDoorQuick1
import Derived.Test.YtogkgoabonbkkaaDoorRsteps
set_option linter.unusedSimpArgs false
set_option linter.unusedVariables false
namespace Go.Proofs.YtogkgoabonbkkaaDoor
open Go Go.RowKit Tor

theorem RdN.at {w : World} {B : Nat} {A : Option Addr} {n : Nat} (h : RdN w B A (List.range n)) {k : Nat} (hk : k < n) : ∃ b o, A = some ⟨b, o, none⟩ ∧ b < B ∧ w.cell? ⟨b, o + k, none⟩ = some (.int .i64 k) := by
  have hne : List.range n ≠ [] := by intro e; have := congrArg List.length e; simp at this; omega
  obtain ⟨b, o, e, hb, hc⟩ := h hne
  exact ⟨b, o, e, hb, by simpa using hc k k (by simp [hk]) 0 _ rfl⟩

theorem bestUpto_succ_gt {f : Nat → Nat} {k b : Nat} (h : b = bestUpto f k) (hf : f b < f k) : k = bestUpto f (k + 1) := by subst h; rw [bestUpto, if_pos hf]
theorem bestUpto_succ_le {f : Nat → Nat} {k b : Nat} (h : b = bestUpto f k) (hf : ¬ f b < f k) : b = bestUpto f (k + 1) := by subst h; rw [bestUpto, if_neg hf]


/-- how many works fall off at a place -/
def offN (s N : Nat) (f : Nat → List Nat) (h : Nat) : Nat := (swp h s N h f).1.length


set_option maxRecDepth 100000 in
set_option maxHeartbeats 2000000 in
theorem best_any (R B rb pb s : Nat) (f : Nat → List Nat) (n : Nat) (A : Option Addr) (c : Nat) (w : World) (hr : RowsAt w R B f) (hrp : w.cell? ⟨rb, 0, none⟩ = some (.pointer (some ⟨R, 0, none⟩))) (hsp : w.cell? ⟨pb, 0, none⟩ = some (.int .i64 s))
    (hn0 : 0 < n) (hh : n + s ≤ 25) (h2 : 2 ≤ s) (hs : sumTo f 24 ≤ 2000) (N : Nat) (hN : 2 * sumTo f 24 + s ≤ N) (hf : ∀ k, k < 24 → (f k).length ≤ 1000) (hBw : B ≤ w.heap.size)
    (C : Nat) (hA : RdN w C A (List.range n)) (hC : C ≤ w.heap.size) (hoff : ∀ k, k < n → offN s N f k ≤ 2000) :
    Calls Tryd.prog 13 #[.slice A n c, .func (.func 14) #[] #[.pointer (some ⟨rb, 0, none⟩), .pointer (some ⟨pb, 0, none⟩)]] w (Ret (.int .i64 (bestUpto (offN s N f) n)) w) := by
  have HF := Lib.hid hf
  have HR := Lib.hid hr
  have HO := Lib.hid hoff
  have hRlt : R < w.heap.size := by obtain ⟨_, _, r0, _⟩ := hr 0 (by omega); exact lt_of_cell r0
  have HA := Lib.hid hA
  obtain ⟨b, o, rfl, hb, hc0⟩ := hA.at hn0
  clear hf hr hoff hA
  rw [Nat.add_zero] at hc0
  go_enter Tryd.func13, Tryd.ntmps13
  go_wp2
  go_region
  all_goals go_wp2
  go_loopw [5, 6, 15] (fun mst fnd k wr => ∃ (m bu F : Nat), m ≤ n ∧ k = .int .i64 m ∧ fnd = .int .i64 bu ∧ mst = .int .i64 F ∧ Hid (bu = bestUpto (offN s N f) m) ∧ Hid (0 < m → F = offN s N f bu) ∧ bu ≤ m ∧ F ≤ 2000 ∧ Below w.heap.size w wr) (fun _ _ k _ => n - (intOf k).toNat)
  case atStart => exact ⟨0, 0, 0, by omega, rfl, rfl, rfl, rfl, fun h => absurd h (by omega), Nat.le_refl _, by omega, (Below.refl _ _).drew⟩
  case round =>
    obtain ⟨m, bu, F, hmn, rfl, rfl, rfl, hbu, hF, hbm, hF2, hB⟩ := hrel
    by_cases hlt : m < n
    · obtain ⟨b', o', e', hb', hcm⟩ := RdN.at (Rd.below' HA.out hB hC) hlt
      simp only [Option.some.injEq, Addr.mk.injEq, and_true] at e'
      obtain ⟨rfl, rfl⟩ := e'
      have hsp' := (hB.cell (p := ⟨pb, 0, none⟩) (lt_of_cell hsp)).trans hsp
      have hrp' := (hB.cell (p := ⟨rb, 0, none⟩) (lt_of_cell hrp)).trans hrp
      have hR' : Hid (RowsAt wr R B f) := HR.out.same ⟨hB.os, hB.tape, hB.output, hB.size, fun k hk => hB.block k (by rcases hk with hk | rfl <;> omega)⟩
      have hFm := HO.out m hlt
      obtain ⟨G, hG⟩ : ∃ G, Hid (offN s N f m = G) := ⟨_, rfl⟩
      rw [hG.out] at hFm
      have hcall : ∀ w', w' = wr → Calls Tryd.prog 14 #[.int .i64 m, .pointer (some ⟨rb, 0, none⟩), .pointer (some ⟨pb, 0, none⟩)] w' (Ret (.int .i64 G) w') := by
        intro w' e; subst e
        have := quick1_any R B rb pb m s f w' hR'.out hrp' hsp' (by omega) h2 hs N hN HF.out (Nat.le_trans hBw hB.size)
        rw [← hG.out]; exact this
      have HC := Lib.hid hcall
      clear hcall
      by_cases h0 : m = 0
      · have t1 : ((m : Int) == 0) = true := by simp [h0]
        have H0 := Lib.hid h0
        clear h0
        go_wp2_with (first | (go_at_call 14; refine (HC.out _ rfl).mono ?_; rintro e w1 ⟨rfl, hB1⟩))
        constructor
        · exact ⟨m + 1, m, G, by omega, by go_num, rfl, rfl, (by have h0 := H0.out; subst h0; rw [Hid]; simp [bestUpto]), (fun _ => hG.out.symm), (by omega), (by omega), hB.trans (hB1.mono hB.size)⟩
        · simp [intOf]; omega
      · have t1 : ((m : Int) == 0) = false := by simpa using h0
        by_cases hg : F < G
        · have t2 : decide ((G : Int) > F) = true := by simpa using hg
          go_wp2_with (first | (go_at_call 14; refine (HC.out _ rfl).mono ?_; rintro e w1 ⟨rfl, hB1⟩))
          constructor
          · exact ⟨m + 1, m, G, by omega, by go_num, rfl, rfl, bestUpto_succ_gt hbu.out (by rw [hG.out, ← hF.out (by omega)]; exact hg), (fun _ => hG.out.symm), (by omega), (by omega), hB.trans (hB1.mono hB.size)⟩
          · simp [intOf]; omega
        · have t2 : decide ((G : Int) > F) = false := by simpa using hg
          go_wp2_with (first | (go_at_call 14; refine (HC.out _ rfl).mono ?_; rintro e w1 ⟨rfl, hB1⟩))
          constructor
          · exact ⟨m + 1, bu, F, by omega, by go_num, rfl, rfl, bestUpto_succ_le hbu.out (by rw [hG.out, ← hF.out (by omega)]; exact hg), (fun _ => hF.out (by omega)), (by omega), (by omega), hB.trans (hB1.mono hB.size)⟩
          · simp [intOf]; omega
    · have e1 : m = n := by omega
      subst e1
      go_wp2
      go_ret
      exact Ret.val (by rw [hbu.out]; rfl) hB
end Go.Proofs.YtogkgoabonbkkaaDoor
