/- torchonref03: shorter, Reduce. -/
import Derived.Test.YtblifdchofihoaaRRed
set_option linter.unusedSimpArgs false
set_option linter.unusedVariables false
namespace Go.Proofs.Ytblifdchofihoaa
open Go Go.RowKit Tor

/-- may all letters between two places be exchanged with the first one? -/
def allA (L : List UInt8) (i m : Nat) : Bool := ((L.take m).drop (i + 1)).all fun c => apartB c (L.getD i 0)
theorem allA_start (L : List UInt8) (i : Nat) : allA L i (i + 1) = true := by
  unfold allA
  rw [List.drop_eq_nil_of_le (by rw [List.length_take]; omega)]; rfl
theorem allA_step {L : List UInt8} {i m : Nat} (him : i < m) (hm : m < L.length) : allA L i (m + 1) = (allA L i m && apartB L[m] (L[i]'(by omega))) := by
  unfold allA
  rw [Tor.take_snoc L m hm, List.drop_append, List.all_append]
  have : (L.take m).length = m := by rw [List.length_take]; omega
  rw [this, show i + 1 - m = 0 by omega, List.getD_eq_getElem?_getD, List.getElem?_eq_getElem (show i < L.length by omega)]
  simp
theorem allA_iff {L : List UInt8} {i k : Nat} (hk : k ≤ L.length) (hi : i < L.length) : allA L i k = true ↔ ∀ (m : Nat) (hm : m < L.length), i < m → m < k → apartB L[m] L[i] = true := by
  unfold allA
  rw [List.all_eq_true, List.getD_eq_getElem?_getD, List.getElem?_eq_getElem hi]
  constructor
  · intro h m hm h1 h2
    refine h _ (List.mem_iff_getElem.2 ⟨m - (i + 1), by rw [List.length_drop, List.length_take]; omega, ?_⟩)
    rw [List.getElem_drop, List.getElem_take]
    congr 1; omega
  · intro h c hc
    obtain ⟨j, hj, rfl⟩ := List.mem_iff_getElem.1 hc
    rw [List.length_drop, List.length_take] at hj
    rw [List.getElem_drop, List.getElem_take]
    exact h _ (by omega) (by omega) (by omega)
/-- may the first and the last letter be taken out? -/
def pairB (L : List UInt8) (i k : Nat) : Bool := decide (L.getD i 0 ≠ 80) && decide (L.getD k 0 = undo (L.getD i 0))
theorem free_iff {L : List UInt8} {i k : Nat} (hik : i < k) (hk : k < L.length) : FreeP L i k ↔ (pairB L i k && allA L i k) = true := by
  have hi : i < L.length := by omega
  unfold pairB FreeP
  rw [Bool.and_eq_true, Bool.and_eq_true, decide_eq_true_iff, decide_eq_true_iff, allA_iff (by omega) hi]
  simp only [List.getD_eq_getElem?_getD, List.getElem?_eq_getElem hi, List.getElem?_eq_getElem hk, Option.getD_some]
  constructor
  · rintro ⟨_, _, _, h1, h2, h3⟩; exact ⟨⟨h1, h2⟩, h3⟩
  · rintro ⟨⟨h1, h2⟩, h3⟩; exact ⟨hi, hk, hik, h1, h2, h3⟩
theorem isLong_letter {c : UInt8} (h : isLong c = true) : isLetter c = true := by
  rcases isLong_cases h with rfl | rfl | rfl | rfl | rfl | rfl | rfl <;> decide

theorem idx_ex (c : UInt8) (w : World) (g : Ex w) : Calls Try.prog 43 #[.string ⟨#[67, 84, 76, 82, 80, 99, 116, 108, 114]⟩, .int .u8 c.toNat] g.w fun e w'' => e = .returned (.int .i64 (Lib.indexByte lettersL c)) ∧ ∃ g' : Ex w, w'' = g'.w := calls_ex (letterRef c g.w)
theorem apart_ex (a b : UInt8) (w : World) (g : Ex w) : Calls Try.prog 82 #[.int .u8 a.toNat, .int .u8 b.toNat] g.w fun e w'' => e = .returned (.bool (apartB a b)) ∧ ∃ g' : Ex w, w'' = g'.w :=
  calls_ex ((apart_same a b g.w).mono fun e w' ⟨h1, h2⟩ => by subst h2; exact ⟨h1, Below.refl _ _⟩)
theorem ordered_ex (L : List UInt8) (w : World) (g : Ex w) (hL : L.length ≤ 100) : Calls Try.prog 44 #[.string (bL L)] g.w fun e w'' => e = .returned (.string (bL (orderedL L))) ∧ ∃ g' : Ex w, w'' = g'.w :=
  calls_ex ((ordered_same L g.w hL).mono fun e w' ⟨h1, h2⟩ => by subst h2; exact ⟨h1, Below.refl _ _⟩)

/-- what shorter returns -/
def ShortR (L M : List UInt8) (b : Bool) : Prop := (b = true ∧ ∃ i k, FreeP L i k ∧ M = without2 L i k) ∨ (b = false ∧ M = L ∧ ∀ i k, ¬ FreeP L i k)
def ShortPost (L : List UInt8) (w : World) (e : Ending) (w' : World) : Prop := ∃ (M : List UInt8) (b : Bool), e = .returned (.tuple #[.string (bL M), .bool b]) ∧ ShortR L M b ∧ Below w.heap.size w w'

set_option maxRecDepth 100000 in
set_option maxHeartbeats 4000000 in
theorem shorter_any (L : List UInt8) (w : World) (hlong : ∀ c ∈ L, isLong c = true) (hL : L.length ≤ 32) :
    Calls Try.prog 42 #[.string (bL L)] w (ShortPost L w) := by
  have hz : (bL L).size = L.length := rfl
  have HLG := Lib.hid hlong
  clear hlong
  go_enter Try.func42, Try.ntmps42
  go_wp2_with fail
  go_loopw [4] (fun iv wr => ∃ i : Nat, i ≤ L.length ∧ iv = .int .i64 i ∧ Hid (∀ i' k, i' < i → ¬ FreeP L i' k) ∧ Below w.heap.size w wr) (fun iv _ => L.length - (intOf iv).toNat)
  case atStart => exact ⟨0, Nat.zero_le _, rfl, Lib.hid (fun i' k h => by omega), Below.refl _ _⟩
  case round =>
    obtain ⟨i, hi, rfl, hno, hB⟩ := hrel
    by_cases hlt : i < L.length
    rotate_left
    · go_wp2_with fail
      go_ret2
      exact ⟨L, false, rfl, Or.inr ⟨rfl, rfl, fun i' k h => hno.out i' k (by have := h.1; omega) h⟩, hB⟩
    have hltI : i < (bL L).size := hlt
    have hL1 := HLG.out _ (List.getElem_mem hlt)
    obtain ⟨q, hq9, hqi, hqu⟩ := idxU ((bL L)[i]'hltI) (isLong_letter hL1)
    have HQ := Lib.hid hqi
    have hgu : Hid ((⟨#[99, 116, 108, 114, 80, 67, 84, 76, 82]⟩ : ByteArray)[q]'(by show q < 9; exact hq9) = undo ((bL L)[i]'hltI)) := Lib.hid (hqu _)
    have hD : Hid (L.getD i 0 = ((bL L)[i]'hltI)) := by rw [Hid, List.getD_eq_getElem?_getD, List.getElem?_eq_getElem hlt]; rfl
    have i0 : (0 : Int) ≤ (i : Int) := by omega
    have i1 : (i : Int) < (L.length : Int) := by omega
    have q0 : (0 : Int) ≤ (q : Int) := by omega
    have q1 : (q : Int) < 9 := by omega
    have ii : (i : Int) + 1 ≤ (L.length : Int) := by omega
    clear hqi hqu
    go_wp2_with fail
    obtain ⟨wo, rfl⟩ : ∃ wo : World, wo = wr := ⟨_, rfl⟩
    go_loopw [5] (fun kv wr => ∃ k : Nat, i + 1 ≤ k ∧ k ≤ L.length ∧ kv = .int .i64 k ∧ Hid (∀ k', k' < k → ¬ FreeP L i k') ∧ Below w.heap.size w wr) (fun kv _ => L.length - (intOf kv).toNat)
    case atStart => exact ⟨i + 1, Nat.le_refl _, by omega, by go_num, Lib.hid (fun k' h hf => by have := hf.2.2.1; omega), hB⟩
    case round =>
      obtain ⟨k, hik, hk, rfl, hno2, hBk⟩ := hrel
      by_cases hltk : k < L.length
      rotate_left
      · go_wp2_with fail
        go_roundw
        case rel =>
          refine ⟨i + 1, by omega, by go_num, Lib.hid (fun i' k' h hf => ?_), hBk⟩
          by_cases e : i' = i
          · subst e; exact hno2.out k' (by have := hf.2.1; omega) hf
          · exact hno.out i' k' (by omega) hf
        case measure => simp [intOf]; omega
      have hltK : k < (bL L).size := hltk
      have hDk : Hid (L.getD k 0 = ((bL L)[k]'hltK)) := by rw [Hid, List.getD_eq_getElem?_getD, List.getElem?_eq_getElem hltk]; rfl
      have hfree := Lib.hid (free_iff (L := L) (i := i) (k := k) (by omega) hltk)
      have k0 : (0 : Int) ≤ (k : Int) := by omega
      have k1 : (k : Int) < (L.length : Int) := by omega
      have kk : (k : Int) + 1 ≤ (L.length : Int) := by omega
      obtain ⟨f0, hf0⟩ : ∃ f0, Hid (pairB L i k = f0) := ⟨_, Lib.hid rfl⟩
      have hpb : Hid (f0 = (decide (((bL L)[i]'hltI) ≠ 80) && decide (((bL L)[k]'hltK) = undo ((bL L)[i]'hltI)))) := by rw [Hid, ← hf0.out]; unfold pairB; rw [hD.out, hDk.out]
      have h80 : (80 : UInt8).toNat = 80 := rfl
      rcases (show ((bL L)[i]'hltI) = 80 ∨ (((bL L)[i]'hltI) ≠ 80 ∧ ((bL L)[k]'hltK) = undo ((bL L)[i]'hltI)) ∨ (((bL L)[i]'hltI) ≠ 80 ∧ ((bL L)[k]'hltK) ≠ undo ((bL L)[i]'hltI)) by by_cases h1 : ((bL L)[i]'hltI) = 80 <;> by_cases h2 : ((bL L)[k]'hltK) = undo ((bL L)[i]'hltI) <;> simp [h1, h2]) with h | ⟨h, h2⟩ | ⟨h, h2⟩
      · have b1 : ((((bL L)[i]'hltI).toNat : Int) != 80) = false := by rw [h]; rfl
        have b1a : ((((bL L)[i]'hltI).toNat : Int) == 80) = true := by rw [h]; rfl
        have b1b : (((bL L)[i]'hltI).toNat : Int) = 80 := by rw [h]; rfl
        have b1c : decide ((((bL L)[i]'hltI).toNat : Int) = 80) = true := decide_eq_true b1b
        clear b1b
        have hv : f0 = false := by rw [hpb.out, h]; rfl
        subst hv
        clear h h80 hpb
        go_wp2_with fail
        refine wp_region_ex (by kernel_rfl) (by kernel_rfl) ?_
        repeat (go_big_quiet_step (first
          | (go_at_call 43; refine (idx_ex ((bL L)[i]'hltI) _ _).mono ?_; rintro e w' ⟨rfl, hg⟩; rw [HQ.out]; exact ⟨rfl, hg⟩)
          | fail))
        refine wpQuiet_nil ?_
        intro _ hw'
        obtain ⟨g, hw''⟩ := hw'
        subst hw''
        have hq := g.h
        have hBg : Below w.heap.size w g.w := hBk.trans (hq.mono hBk.size)
        go_wp2_with fail
        obtain ⟨wi, hwi⟩ : ∃ wi : World, Hid (wi = g.w) := ⟨_, Lib.hid rfl⟩
        rw [← hwi.out] at hBg ⊢
        clear hq hwi
        go_loopw [6, 7] (fun fv mv wr => ∃ (m : Nat) (fr : Bool), i + 1 ≤ m ∧ m ≤ k ∧ mv = .int .i64 m ∧ fv = .bool fr ∧ Hid (fr = (pairB L i k && allA L i m)) ∧ Below w.heap.size w wr) (fun _ mv _ => k - (intOf mv).toNat)
        case atStart => exact ⟨i + 1, _, Nat.le_refl _, hik, by go_num, rfl, Lib.hid (by rw [hf0.out, allA_start]; rfl), hBg⟩
        case round =>
          obtain ⟨m, fr, him, hmk, rfl, rfl, hfr, hBm⟩ := hrel
          by_cases hltm : m < k
          · have hml : m < L.length := by omega
            have hltM : m < (bL L).size := hml
            have m0 : (0 : Int) ≤ (m : Int) := by omega
            have m1 : (m : Int) < (L.length : Int) := by omega
            have mm : (m : Int) + 1 ≤ (L.length : Int) := by omega
            have hst : Hid (allA L i (m + 1) = (allA L i m && apartB ((bL L)[m]'hltM) ((bL L)[i]'hltI))) := by rw [Hid, allA_step (by omega) hml]; rfl
            cases fr
            · have hs2 : Hid (false = (pairB L i k && allA L i (m + 1))) := by
                rw [Hid, hst.out, ← Bool.and_assoc, ← hfr.out]; rfl
              go_wp2_with fail
              refine wp_region_ex (by kernel_rfl) (by kernel_rfl) ?_
              repeat (go_big_quiet_step (first
                | fail))
              refine wpQuiet_nil ?_
              intro _ hw'
              obtain ⟨g3, hw''⟩ := hw'
              subst hw''
              have hq3 := g3.h
              go_wp2_with fail
              go_roundw
              case rel => exact ⟨m + 1, false, by omega, by omega, by go_num, rfl, hs2, hBm.trans (hq3.mono hBm.size)⟩
              case measure => simp [intOf]; omega
            · have hs2 : Hid (apartB ((bL L)[m]'hltM) ((bL L)[i]'hltI) = (pairB L i k && allA L i (m + 1))) := by
                rw [Hid, hst.out, ← Bool.and_assoc, ← hfr.out, Bool.true_and]
              go_wp2_with fail
              refine wp_region_ex (by kernel_rfl) (by kernel_rfl) ?_
              repeat (go_big_quiet_step (first
                | (go_at_call 82; refine (apart_ex ((bL L)[m]'hltM) ((bL L)[i]'hltI) _ _).mono ?_; rintro e w' ⟨rfl, hg⟩; exact ⟨rfl, hg⟩)
                | fail))
              refine wpQuiet_nil ?_
              intro _ hw'
              obtain ⟨g3, hw''⟩ := hw'
              subst hw''
              have hq3 := g3.h
              go_wp2_with fail
              go_roundw
              case rel => exact ⟨m + 1, apartB ((bL L)[m]'hltM) ((bL L)[i]'hltI), by omega, by omega, by go_num, rfl, hs2, hBm.trans (hq3.mono hBm.size)⟩
              case measure => simp [intOf]; omega
          · have hmk2 : m = k := by omega
            subst hmk2
            cases fr
            · have hnf : ¬ FreeP L i m := by rw [hfree.out, ← hfr.out]; decide
              go_wp2_with fail
              go_roundw
              case rel =>
                refine ⟨m + 1, by omega, by omega, by go_num, Lib.hid (fun k' h => ?_), hBm⟩
                by_cases e : k' = m
                · subst e; exact hnf
                · exact hno2.out k' (by omega)
              case measure => simp [intOf]; omega
            · have hfp : FreeP L i m := by rw [hfree.out, ← hfr.out]
              have hFP := Lib.hid hfp
              have x1 : (bL L).extract 0 i = bL (L.take i) := by rw [bL_ext]; simp
              have x2 : (bL L).extract (i + 1) m = bL ((L.take m).drop (i + 1)) := bL_ext L (i + 1) m
              have x3 : (bL L).extract (m + 1) L.length = bL (L.drop (m + 1)) := by rw [bL_ext, List.take_length]
              have hza : ∀ x y : ByteArray, (x ++ y).size = x.size + y.size := fun x y => ByteArray.size_append
              have z1 : (bL (L.take i)).size ≤ 32 := by rw [bL_size, List.length_take]; omega
              have z2 : (bL ((L.take m).drop (i + 1))).size ≤ 32 := by rw [bL_size, List.length_drop, List.length_take]; omega
              have z3 : (bL (L.drop (m + 1))).size ≤ 32 := by rw [bL_size, List.length_drop]; omega
              have s1 : ¬ 9223372036854775807 < (bL (L.take i)).size + (bL ((L.take m).drop (i + 1))).size := by omega
              have s2 : ¬ 9223372036854775807 < (bL (L.take i)).size + (bL ((L.take m).drop (i + 1))).size + (bL (L.drop (m + 1))).size := by omega
              have w1 : IntKind.i64.wrap ((i : Int) + 1) = (i : Int) + 1 := IntWalk.i64_in _ (by omega)
              have w2 : IntKind.i64.wrap ((m : Int) + 1) = (m : Int) + 1 := IntWalk.i64_in _ (by omega)
              have w3 : ((i : Int) + 1).toNat = i + 1 := by omega
              have w4 : ((m : Int) + 1).toNat = m + 1 := by omega
              have v1 : (i : Int) + 1 ≤ (m : Int) := by omega
              have v2 : (0 : Int) ≤ (i : Int) + 1 := by omega
              have v3 : (0 : Int) ≤ (m : Int) + 1 := by omega
              have v4 : (m : Int) ≤ (L.length : Int) := by omega
              have v5 : (i : Int) ≤ (L.length : Int) := by omega
              have v6 : i ≤ L.length := by omega
              have v7 : (m : Int) + 1 ≤ (L.length : Int) := by omega
              clear hfp
              go_wp2_with fail
              refine wp_region_ex (by kernel_rfl) (by kernel_rfl) ?_
              repeat (go_big_quiet_step (first
                | fail))
              refine wpQuiet_nil ?_
              intro _ hw'
              obtain ⟨g4, hw''⟩ := hw'
              subst hw''
              have hq4 := g4.h
              go_wp2_with fail
              go_ret2
              refine ⟨without2 L i m, true, ?_, Or.inl ⟨rfl, i, m, hFP.out, rfl⟩, hBm.trans (hq4.mono hBm.size)⟩
              have hS : bL (L.take i) ++ bL ((L.take m).drop (i + 1)) ++ bL (L.drop (m + 1)) = bL (without2 L i m) := by rw [bL_app, bL_app]; rfl
              exact congrArg (fun x => Ending.returned (.tuple #[.string x, .bool true])) hS
      · have b1 : ((((bL L)[i]'hltI).toNat : Int) != 80) = true := by
          have : (((bL L)[i]'hltI).toNat : Int) ≠ 80 := fun e => h (UInt8.toNat_inj.1 (by omega))
          simpa using this
        have b1a : ((((bL L)[i]'hltI).toNat : Int) == 80) = false := by
          have : (((bL L)[i]'hltI).toNat : Int) ≠ 80 := fun e => h (UInt8.toNat_inj.1 (by omega))
          simpa using this
        have b1c : decide ((((bL L)[i]'hltI).toNat : Int) = 80) = false := b1a
        have b2 : ((((bL L)[k]'hltK).toNat : Int) == (((⟨#[99, 116, 108, 114, 80, 67, 84, 76, 82]⟩ : ByteArray)[q]'(by show q < 9; exact hq9)).toNat : Int)) = true := by rw [hgu.out, h2]; simp
        have hv : f0 = true := by rw [hpb.out]; simp [h, h2]
        subst hv
        clear h h2 h80 hpb
        go_wp2_with fail
        refine wp_region_ex (by kernel_rfl) (by kernel_rfl) ?_
        repeat (go_big_quiet_step (first
          | (go_at_call 43; refine (idx_ex ((bL L)[i]'hltI) _ _).mono ?_; rintro e w' ⟨rfl, hg⟩; rw [HQ.out]; exact ⟨rfl, hg⟩)
          | fail))
        refine wpQuiet_nil ?_
        intro _ hw'
        obtain ⟨g, hw''⟩ := hw'
        subst hw''
        have hq := g.h
        have hBg : Below w.heap.size w g.w := hBk.trans (hq.mono hBk.size)
        go_wp2_with fail
        obtain ⟨wi, hwi⟩ : ∃ wi : World, Hid (wi = g.w) := ⟨_, Lib.hid rfl⟩
        rw [← hwi.out] at hBg ⊢
        clear hq hwi
        go_loopw [6, 7] (fun fv mv wr => ∃ (m : Nat) (fr : Bool), i + 1 ≤ m ∧ m ≤ k ∧ mv = .int .i64 m ∧ fv = .bool fr ∧ Hid (fr = (pairB L i k && allA L i m)) ∧ Below w.heap.size w wr) (fun _ mv _ => k - (intOf mv).toNat)
        case atStart => exact ⟨i + 1, _, Nat.le_refl _, hik, by go_num, rfl, Lib.hid (by rw [hf0.out, allA_start]; rfl), hBg⟩
        case round =>
          obtain ⟨m, fr, him, hmk, rfl, rfl, hfr, hBm⟩ := hrel
          by_cases hltm : m < k
          · have hml : m < L.length := by omega
            have hltM : m < (bL L).size := hml
            have m0 : (0 : Int) ≤ (m : Int) := by omega
            have m1 : (m : Int) < (L.length : Int) := by omega
            have mm : (m : Int) + 1 ≤ (L.length : Int) := by omega
            have hst : Hid (allA L i (m + 1) = (allA L i m && apartB ((bL L)[m]'hltM) ((bL L)[i]'hltI))) := by rw [Hid, allA_step (by omega) hml]; rfl
            cases fr
            · have hs2 : Hid (false = (pairB L i k && allA L i (m + 1))) := by
                rw [Hid, hst.out, ← Bool.and_assoc, ← hfr.out]; rfl
              go_wp2_with fail
              refine wp_region_ex (by kernel_rfl) (by kernel_rfl) ?_
              repeat (go_big_quiet_step (first
                | fail))
              refine wpQuiet_nil ?_
              intro _ hw'
              obtain ⟨g3, hw''⟩ := hw'
              subst hw''
              have hq3 := g3.h
              go_wp2_with fail
              go_roundw
              case rel => exact ⟨m + 1, false, by omega, by omega, by go_num, rfl, hs2, hBm.trans (hq3.mono hBm.size)⟩
              case measure => simp [intOf]; omega
            · have hs2 : Hid (apartB ((bL L)[m]'hltM) ((bL L)[i]'hltI) = (pairB L i k && allA L i (m + 1))) := by
                rw [Hid, hst.out, ← Bool.and_assoc, ← hfr.out, Bool.true_and]
              go_wp2_with fail
              refine wp_region_ex (by kernel_rfl) (by kernel_rfl) ?_
              repeat (go_big_quiet_step (first
                | (go_at_call 82; refine (apart_ex ((bL L)[m]'hltM) ((bL L)[i]'hltI) _ _).mono ?_; rintro e w' ⟨rfl, hg⟩; exact ⟨rfl, hg⟩)
                | fail))
              refine wpQuiet_nil ?_
              intro _ hw'
              obtain ⟨g3, hw''⟩ := hw'
              subst hw''
              have hq3 := g3.h
              go_wp2_with fail
              go_roundw
              case rel => exact ⟨m + 1, apartB ((bL L)[m]'hltM) ((bL L)[i]'hltI), by omega, by omega, by go_num, rfl, hs2, hBm.trans (hq3.mono hBm.size)⟩
              case measure => simp [intOf]; omega
          · have hmk2 : m = k := by omega
            subst hmk2
            cases fr
            · have hnf : ¬ FreeP L i m := by rw [hfree.out, ← hfr.out]; decide
              go_wp2_with fail
              go_roundw
              case rel =>
                refine ⟨m + 1, by omega, by omega, by go_num, Lib.hid (fun k' h => ?_), hBm⟩
                by_cases e : k' = m
                · subst e; exact hnf
                · exact hno2.out k' (by omega)
              case measure => simp [intOf]; omega
            · have hfp : FreeP L i m := by rw [hfree.out, ← hfr.out]
              have hFP := Lib.hid hfp
              have x1 : (bL L).extract 0 i = bL (L.take i) := by rw [bL_ext]; simp
              have x2 : (bL L).extract (i + 1) m = bL ((L.take m).drop (i + 1)) := bL_ext L (i + 1) m
              have x3 : (bL L).extract (m + 1) L.length = bL (L.drop (m + 1)) := by rw [bL_ext, List.take_length]
              have hza : ∀ x y : ByteArray, (x ++ y).size = x.size + y.size := fun x y => ByteArray.size_append
              have z1 : (bL (L.take i)).size ≤ 32 := by rw [bL_size, List.length_take]; omega
              have z2 : (bL ((L.take m).drop (i + 1))).size ≤ 32 := by rw [bL_size, List.length_drop, List.length_take]; omega
              have z3 : (bL (L.drop (m + 1))).size ≤ 32 := by rw [bL_size, List.length_drop]; omega
              have s1 : ¬ 9223372036854775807 < (bL (L.take i)).size + (bL ((L.take m).drop (i + 1))).size := by omega
              have s2 : ¬ 9223372036854775807 < (bL (L.take i)).size + (bL ((L.take m).drop (i + 1))).size + (bL (L.drop (m + 1))).size := by omega
              have w1 : IntKind.i64.wrap ((i : Int) + 1) = (i : Int) + 1 := IntWalk.i64_in _ (by omega)
              have w2 : IntKind.i64.wrap ((m : Int) + 1) = (m : Int) + 1 := IntWalk.i64_in _ (by omega)
              have w3 : ((i : Int) + 1).toNat = i + 1 := by omega
              have w4 : ((m : Int) + 1).toNat = m + 1 := by omega
              have v1 : (i : Int) + 1 ≤ (m : Int) := by omega
              have v2 : (0 : Int) ≤ (i : Int) + 1 := by omega
              have v3 : (0 : Int) ≤ (m : Int) + 1 := by omega
              have v4 : (m : Int) ≤ (L.length : Int) := by omega
              have v5 : (i : Int) ≤ (L.length : Int) := by omega
              have v6 : i ≤ L.length := by omega
              have v7 : (m : Int) + 1 ≤ (L.length : Int) := by omega
              clear hfp
              go_wp2_with fail
              refine wp_region_ex (by kernel_rfl) (by kernel_rfl) ?_
              repeat (go_big_quiet_step (first
                | fail))
              refine wpQuiet_nil ?_
              intro _ hw'
              obtain ⟨g4, hw''⟩ := hw'
              subst hw''
              have hq4 := g4.h
              go_wp2_with fail
              go_ret2
              refine ⟨without2 L i m, true, ?_, Or.inl ⟨rfl, i, m, hFP.out, rfl⟩, hBm.trans (hq4.mono hBm.size)⟩
              have hS : bL (L.take i) ++ bL ((L.take m).drop (i + 1)) ++ bL (L.drop (m + 1)) = bL (without2 L i m) := by rw [bL_app, bL_app]; rfl
              exact congrArg (fun x => Ending.returned (.tuple #[.string x, .bool true])) hS
      · have b1 : ((((bL L)[i]'hltI).toNat : Int) != 80) = true := by
          have : (((bL L)[i]'hltI).toNat : Int) ≠ 80 := fun e => h (UInt8.toNat_inj.1 (by omega))
          simpa using this
        have b1a : ((((bL L)[i]'hltI).toNat : Int) == 80) = false := by
          have : (((bL L)[i]'hltI).toNat : Int) ≠ 80 := fun e => h (UInt8.toNat_inj.1 (by omega))
          simpa using this
        have b1c : decide ((((bL L)[i]'hltI).toNat : Int) = 80) = false := b1a
        have b2 : ((((bL L)[k]'hltK).toNat : Int) == (((⟨#[99, 116, 108, 114, 80, 67, 84, 76, 82]⟩ : ByteArray)[q]'(by show q < 9; exact hq9)).toNat : Int)) = false := by
          rw [hgu.out]
          have : (((bL L)[k]'hltK).toNat : Int) ≠ ((undo ((bL L)[i]'hltI)).toNat : Int) := fun e => h2 (UInt8.toNat_inj.1 (by omega))
          simpa using this
        have hv : f0 = false := by rw [hpb.out]; simp [h, h2]
        subst hv
        clear h h2 h80 hpb
        go_wp2_with fail
        refine wp_region_ex (by kernel_rfl) (by kernel_rfl) ?_
        repeat (go_big_quiet_step (first
          | (go_at_call 43; refine (idx_ex ((bL L)[i]'hltI) _ _).mono ?_; rintro e w' ⟨rfl, hg⟩; rw [HQ.out]; exact ⟨rfl, hg⟩)
          | fail))
        refine wpQuiet_nil ?_
        intro _ hw'
        obtain ⟨g, hw''⟩ := hw'
        subst hw''
        have hq := g.h
        have hBg : Below w.heap.size w g.w := hBk.trans (hq.mono hBk.size)
        go_wp2_with fail
        obtain ⟨wi, hwi⟩ : ∃ wi : World, Hid (wi = g.w) := ⟨_, Lib.hid rfl⟩
        rw [← hwi.out] at hBg ⊢
        clear hq hwi
        go_loopw [6, 7] (fun fv mv wr => ∃ (m : Nat) (fr : Bool), i + 1 ≤ m ∧ m ≤ k ∧ mv = .int .i64 m ∧ fv = .bool fr ∧ Hid (fr = (pairB L i k && allA L i m)) ∧ Below w.heap.size w wr) (fun _ mv _ => k - (intOf mv).toNat)
        case atStart => exact ⟨i + 1, _, Nat.le_refl _, hik, by go_num, rfl, Lib.hid (by rw [hf0.out, allA_start]; rfl), hBg⟩
        case round =>
          obtain ⟨m, fr, him, hmk, rfl, rfl, hfr, hBm⟩ := hrel
          by_cases hltm : m < k
          · have hml : m < L.length := by omega
            have hltM : m < (bL L).size := hml
            have m0 : (0 : Int) ≤ (m : Int) := by omega
            have m1 : (m : Int) < (L.length : Int) := by omega
            have mm : (m : Int) + 1 ≤ (L.length : Int) := by omega
            have hst : Hid (allA L i (m + 1) = (allA L i m && apartB ((bL L)[m]'hltM) ((bL L)[i]'hltI))) := by rw [Hid, allA_step (by omega) hml]; rfl
            cases fr
            · have hs2 : Hid (false = (pairB L i k && allA L i (m + 1))) := by
                rw [Hid, hst.out, ← Bool.and_assoc, ← hfr.out]; rfl
              go_wp2_with fail
              refine wp_region_ex (by kernel_rfl) (by kernel_rfl) ?_
              repeat (go_big_quiet_step (first
                | fail))
              refine wpQuiet_nil ?_
              intro _ hw'
              obtain ⟨g3, hw''⟩ := hw'
              subst hw''
              have hq3 := g3.h
              go_wp2_with fail
              go_roundw
              case rel => exact ⟨m + 1, false, by omega, by omega, by go_num, rfl, hs2, hBm.trans (hq3.mono hBm.size)⟩
              case measure => simp [intOf]; omega
            · have hs2 : Hid (apartB ((bL L)[m]'hltM) ((bL L)[i]'hltI) = (pairB L i k && allA L i (m + 1))) := by
                rw [Hid, hst.out, ← Bool.and_assoc, ← hfr.out, Bool.true_and]
              go_wp2_with fail
              refine wp_region_ex (by kernel_rfl) (by kernel_rfl) ?_
              repeat (go_big_quiet_step (first
                | (go_at_call 82; refine (apart_ex ((bL L)[m]'hltM) ((bL L)[i]'hltI) _ _).mono ?_; rintro e w' ⟨rfl, hg⟩; exact ⟨rfl, hg⟩)
                | fail))
              refine wpQuiet_nil ?_
              intro _ hw'
              obtain ⟨g3, hw''⟩ := hw'
              subst hw''
              have hq3 := g3.h
              go_wp2_with fail
              go_roundw
              case rel => exact ⟨m + 1, apartB ((bL L)[m]'hltM) ((bL L)[i]'hltI), by omega, by omega, by go_num, rfl, hs2, hBm.trans (hq3.mono hBm.size)⟩
              case measure => simp [intOf]; omega
          · have hmk2 : m = k := by omega
            subst hmk2
            cases fr
            · have hnf : ¬ FreeP L i m := by rw [hfree.out, ← hfr.out]; decide
              go_wp2_with fail
              go_roundw
              case rel =>
                refine ⟨m + 1, by omega, by omega, by go_num, Lib.hid (fun k' h => ?_), hBm⟩
                by_cases e : k' = m
                · subst e; exact hnf
                · exact hno2.out k' (by omega)
              case measure => simp [intOf]; omega
            · have hfp : FreeP L i m := by rw [hfree.out, ← hfr.out]
              have hFP := Lib.hid hfp
              have x1 : (bL L).extract 0 i = bL (L.take i) := by rw [bL_ext]; simp
              have x2 : (bL L).extract (i + 1) m = bL ((L.take m).drop (i + 1)) := bL_ext L (i + 1) m
              have x3 : (bL L).extract (m + 1) L.length = bL (L.drop (m + 1)) := by rw [bL_ext, List.take_length]
              have hza : ∀ x y : ByteArray, (x ++ y).size = x.size + y.size := fun x y => ByteArray.size_append
              have z1 : (bL (L.take i)).size ≤ 32 := by rw [bL_size, List.length_take]; omega
              have z2 : (bL ((L.take m).drop (i + 1))).size ≤ 32 := by rw [bL_size, List.length_drop, List.length_take]; omega
              have z3 : (bL (L.drop (m + 1))).size ≤ 32 := by rw [bL_size, List.length_drop]; omega
              have s1 : ¬ 9223372036854775807 < (bL (L.take i)).size + (bL ((L.take m).drop (i + 1))).size := by omega
              have s2 : ¬ 9223372036854775807 < (bL (L.take i)).size + (bL ((L.take m).drop (i + 1))).size + (bL (L.drop (m + 1))).size := by omega
              have w1 : IntKind.i64.wrap ((i : Int) + 1) = (i : Int) + 1 := IntWalk.i64_in _ (by omega)
              have w2 : IntKind.i64.wrap ((m : Int) + 1) = (m : Int) + 1 := IntWalk.i64_in _ (by omega)
              have w3 : ((i : Int) + 1).toNat = i + 1 := by omega
              have w4 : ((m : Int) + 1).toNat = m + 1 := by omega
              have v1 : (i : Int) + 1 ≤ (m : Int) := by omega
              have v2 : (0 : Int) ≤ (i : Int) + 1 := by omega
              have v3 : (0 : Int) ≤ (m : Int) + 1 := by omega
              have v4 : (m : Int) ≤ (L.length : Int) := by omega
              have v5 : (i : Int) ≤ (L.length : Int) := by omega
              have v6 : i ≤ L.length := by omega
              have v7 : (m : Int) + 1 ≤ (L.length : Int) := by omega
              clear hfp
              go_wp2_with fail
              refine wp_region_ex (by kernel_rfl) (by kernel_rfl) ?_
              repeat (go_big_quiet_step (first
                | fail))
              refine wpQuiet_nil ?_
              intro _ hw'
              obtain ⟨g4, hw''⟩ := hw'
              subst hw''
              have hq4 := g4.h
              go_wp2_with fail
              go_ret2
              refine ⟨without2 L i m, true, ?_, Or.inl ⟨rfl, i, m, hFP.out, rfl⟩, hBm.trans (hq4.mono hBm.size)⟩
              have hS : bL (L.take i) ++ bL ((L.take m).drop (i + 1)) ++ bL (L.drop (m + 1)) = bL (without2 L i m) := by rw [bL_app, bL_app]; rfl
              exact congrArg (fun x => Ending.returned (.tuple #[.string x, .bool true])) hS
end Go.Proofs.Ytblifdchofihoaa
