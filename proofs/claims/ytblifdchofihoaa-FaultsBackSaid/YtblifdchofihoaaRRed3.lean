/- torchonref03: Reduce. -/
import Derived.Test.YtblifdchofihoaaRRed2
set_option linter.unusedSimpArgs false
set_option linter.unusedVariables false
namespace Go.Proofs.Ytblifdchofihoaa
open Go Go.RowKit Tor

theorem longL_long (s : List UInt8) (h : ∀ c ∈ s, isLetter c = true) : ∀ c ∈ longL s, isLong c = true := by
  intro c hc
  obtain ⟨d, hd, hcd⟩ := List.mem_flatMap.1 hc
  have h1 := h d hd
  have h2 : ∀ d, isLetter d = true → ∀ c ∈ (if d = 84 then [(76 : UInt8), 82] else if d = 116 then [108, 114] else [d]), isLong c = true := by
    intro d hd
    rcases letters_cases hd with rfl | rfl | rfl | rfl | rfl | rfl | rfl | rfl | rfl <;> decide
  exact h2 d h1 c hcd
theorem longL_len (s : List UInt8) : (longL s).length ≤ 2 * s.length := by
  induction s with
  | nil => simp [longL]
  | cons c r ih =>
    have : longL (c :: r) = (if c = 84 then [(76 : UInt8), 82] else if c = 116 then [108, 114] else [c]) ++ longL r := rfl
    rw [this, List.length_append, List.length_cons]
    have h2 : (if c = 84 then [(76 : UInt8), 82] else if c = 116 then [108, 114] else [c]).length ≤ 2 := by (repeat' split) <;> simp
    omega
theorem sylOf_long (s : List UInt8) : sylOf (longL s) = sylOf s := foldl_long s rfl
def strN (v : Value) : Nat := match v with | .string x => x.size | _ => 0
def boolN (v : Value) : Nat := match v with | .bool true => 1 | _ => 0
theorem passL_len (s : List UInt8) : (passL s).1.length + (passL s).2.length ≤ s.length := by
  refine snoc_ind (P := fun s => (passL s).1.length + (passL s).2.length ≤ s.length) (by simp [passL]) ?_ s
  intro s a ih
  rw [passL_snoc]
  unfold passStep
  have := ordered_len (passL s).2
  split
  · simp only [List.length_append, List.length_cons, List.length_nil]; omega
  · simp only [List.length_append, List.length_cons, List.length_nil]; omega

/-- how far the reduction has come -/
def RedI (L M : List UInt8) (b : Bool) : Prop := (∀ c ∈ M, isLong c = true) ∧ M.length ≤ 32 ∧ sylOf M = sylOf L ∧ (b = false → ∀ i k, ¬ FreeP M i k)
theorem RedI.next {L M N : List UInt8} {b : Bool} (h : RedI L M true) (hs : ShortR M N b) : RedI L N b ∧ 2 * N.length + (if b then 1 else 0) < 2 * M.length + 1 := by
  obtain ⟨h1, h2, h3, _⟩ := h
  rcases hs with ⟨rfl, i, k, hf, rfl⟩ | ⟨rfl, rfl, hno⟩
  · have hl := without2_len (s := M) (i := i) (k := k) hf.2.1 hf.2.2.1
    refine ⟨⟨fun c hc => h1 c (without2_mem hc), by omega, by rw [sylOf_free h1 hf, h3], fun h => by cases h⟩, ?_⟩
    rw [if_pos rfl]; omega
  · exact ⟨⟨h1, h2, h3, fun _ => hno⟩, by simp⟩

set_option maxRecDepth 100000 in
set_option maxHeartbeats 4000000 in
theorem rred_any (s : ByteArray) (w : World) (hs : wordE s = 0) :
    Calls Try.prog 19 #[.string s] w (Ret (.tuple #[.string (redW s), .int .i64 0]) w) := by
  obtain ⟨L, hLs⟩ : ∃ L, s.data.toList = L := ⟨_, rfl⟩
  have hbs : s = bL L := by rw [← hLs, bL_self]
  have hres : redW s = bL (writeAll (sylOf L)) := by unfold redW; rw [hLs]; rfl
  have h16 := wordE_size hs
  have hlet := (wordE_letters hs).2
  rw [hLs] at hlet
  have hlen : L.length ≤ 16 := by rw [← hLs, bsize]; exact h16
  rw [hres]
  rw [hbs] at hs ⊢
  clear hres hbs hLs h16
  have HS := Lib.hid hs
  have hll := longL_len L
  have hI0 : Hid (RedI L (longL L) true) := Lib.hid ⟨longL_long L (List.all_eq_true.1 hlet), by omega, sylOf_long L, fun h => by cases h⟩
  clear hs hlet
  go_enter Try.func19, Try.ntmps19
  go_wp2_with (first
    | (go_at_call 40; refine (wordRef_any (bL L) _ (by rw [bL_size]; omega)).mono ?_; rintro e w1 ⟨rfl, hB1⟩; rw [HS.out])
    | (go_at_call 41; refine (long_same L _ hlen).mono ?_; rintro e w2 ⟨rfl, rfl⟩)
    | fail)
  go_loopw [5, 6] (fun sv bv wr => ∃ (M : List UInt8) (b : Bool), sv = .string (bL M) ∧ bv = .bool b ∧ Hid (RedI L M b) ∧ Below w.heap.size w wr) (fun sv bv _ => 2 * strN sv + boolN bv)
  case atStart => exact ⟨longL L, true, rfl, rfl, hI0, hB1⟩
  case round =>
    obtain ⟨M, b, rfl, rfl, hI, hB⟩ := hrel
    cases b
    rotate_left
    · have hM1 := hI.out.1
      have hM2 := hI.out.2.1
      have HSH := Lib.hid (fun (w' : World) => shorter_any M w' hM1 hM2)
      clear hM1
      go_wp2_with (first
        | (go_at_call 42; refine (HSH.out _).mono ?_; rintro e w3 ⟨N, b, rfl, hSR, hB3⟩
           have hSR2 := Lib.hid hSR
           clear hSR)
        | fail)
      obtain ⟨hI2, hms⟩ := hI.out.next hSR2.out
      go_roundw
      case rel => exact ⟨N, b, rfl, rfl, Lib.hid hI2, hB.trans (hB3.mono hB.size)⟩
      case measure =>
        simp only [strN, boolN, bL_size]
        cases b <;> simp at hms ⊢ <;> omega
    · obtain ⟨hM1, hM2, hM3, hM4⟩ := hI.out
      have hfin : Hid (refReduced M = writeAll (sylOf L)) := by rw [Hid, reduced_eq M hM1 (hM4 rfl), hM3]
      have hz : (bL M).size = M.length := rfl
      clear hM1 hM3 hM4
      go_wp2_with fail
      obtain ⟨wo, rfl⟩ : ∃ wo : World, wo = wr := ⟨_, rfl⟩
      go_loopw [7, 8, 9] (fun ov tv iv wr => ∃ (k : Nat) (O T : List UInt8), k ≤ M.length ∧ iv = .int .i64 k ∧ ov = .string (bL O) ∧ tv = .string (bL T) ∧ O.length + T.length ≤ k ∧ Hid (passL (M.take k) = (O, T)) ∧ Below w.heap.size w wr) (fun _ _ iv _ => M.length - (intOf iv).toNat)
      case atStart => exact ⟨0, [], [], Nat.zero_le _, rfl, rfl, rfl, Nat.le_refl _, Lib.hid rfl, hB⟩
      case round =>
        obtain ⟨k, O, T, hk, rfl, rfl, rfl, hOT, hp, hBk⟩ := hrel
        have hzO : (bL O).size = O.length := rfl
        have hzT : (bL T).size = T.length := rfl
        have hoT := ordered_len T
        have hzo : (bL (orderedL T)).size = (orderedL T).length := rfl
        by_cases hlt : k < M.length
        · have hltK : k < (bL M).size := hlt
          have hps : Hid (passL (M.take (k + 1)) = passStep (O, T) M[k]) := by rw [Hid, Tor.take_snoc M k hlt, passL_snoc, hp.out]; rfl
          have hi3 : Lib.indexByte [67, 99, 80] ((bL M)[k]'hltK) < 0 ↔ ¬ (M[k] = 67 ∨ M[k] = 99 ∨ M[k] = 80) := idx_three 67 99 80 M[k]
          obtain ⟨q, hq⟩ : ∃ q, Hid (Lib.indexByte [67, 99, 80] ((bL M)[k]'hltK) = q) := ⟨_, Lib.hid rfl⟩
          rw [hq.out] at hi3
          have HI : Hid (∀ w', Calls Try.prog 43 #[.string ⟨#[67, 99, 80]⟩, .int .u8 ((bL M)[k]'hltK).toNat] w' fun e w'' => e = .returned (.int .i64 q) ∧ w'' = w') := Lib.hid (fun w' => by
            have := index_same ⟨#[67, 99, 80]⟩ ((bL M)[k]'hltK) w' (by decide)
            have e : (⟨#[67, 99, 80]⟩ : ByteArray).data.toList = [67, 99, 80] := rfl
            rw [e, hq.out] at this; exact this)
          have k0 : (0 : Int) ≤ (k : Int) := by omega
          have k1 : (k : Int) < (M.length : Int) := by omega
          have kk : (k : Int) + 1 ≤ (M.length : Int) := by omega
          have hx1 : (bL M).extract k (k + 1) = bL [M[k]] := bL_one M k hlt
          have hx2 : (bL [M[k]]).size = 1 := rfl
          by_cases hq0 : q < 0
          · have hno := hi3.1 hq0
            have hp2 : Hid (passL (M.take (k + 1)) = (O, T ++ [M[k]])) := by
              rw [Hid, hps.out]; unfold passStep; rw [if_neg hno]
            clear hno hi3
            go_wp2_with (first
              | (go_at_call 43; refine (HI.out _).mono ?_; rintro e w4 ⟨rfl, rfl⟩)
              | fail)
            go_roundw
            case rel => exact ⟨k + 1, O, T ++ [M[k]], by omega, by go_num, rfl, congrArg Value.string (bL_app T [M[k]]), by simp; omega, hp2, hBk⟩
            case measure => simp [intOf]; omega
          · have hyes : M[k] = 67 ∨ M[k] = 99 ∨ M[k] = 80 := Classical.byContradiction fun h => hq0 (hi3.2 h)
            have hp2 : Hid (passL (M.take (k + 1)) = (O ++ orderedL T ++ [M[k]], [])) := by
              rw [Hid, hps.out]; unfold passStep; rw [if_pos hyes]
            have s1 : ¬ 9223372036854775807 < O.length + (orderedL T).length := by omega
            have s2 : ¬ 9223372036854775807 < O.length + (orderedL T).length + 1 := by omega
            have hza : ∀ x y : ByteArray, (x ++ y).size = x.size + y.size := fun x y => ByteArray.size_append
            have w1' : IntKind.i64.wrap ((k : Int) + 1) = (k : Int) + 1 := IntWalk.i64_in _ (by omega)
            have w2' : ((k : Int) + 1).toNat = k + 1 := by omega
            have v1 : (k : Int) ≤ (k : Int) + 1 := by omega
            have v2 : (0 : Int) ≤ (k : Int) + 1 := by omega
            clear hyes hi3
            go_wp2_with (first
              | (go_at_call 43; refine (HI.out _).mono ?_; rintro e w4 ⟨rfl, rfl⟩)
              | fail)
            refine wp_region_ex (by kernel_rfl) (by kernel_rfl) ?_
            repeat (go_big_quiet_step (first
              | (go_at_call 44; refine (ordered_ex T _ _ (by omega)).mono ?_; rintro e w' ⟨rfl, hg⟩; exact ⟨rfl, hg⟩)
              | fail))
            refine wpQuiet_nil ?_
            intro _ hw'
            obtain ⟨g4, hw''⟩ := hw'
            subst hw''
            have hq4 := g4.h
            go_wp2_with fail
            go_roundw
            case rel =>
              have hS : bL O ++ bL (orderedL T) ++ bL [M[k]] = bL (O ++ orderedL T ++ [M[k]]) := by rw [bL_app, bL_app]
              exact ⟨k + 1, O ++ orderedL T ++ [M[k]], [], by omega, by go_num, congrArg Value.string hS, rfl, by simp; omega, hp2, hBk.trans (hq4.mono hBk.size)⟩
            case measure => simp [intOf]; omega
        · have hkM : k = M.length := by omega
          have hF : Hid (O ++ orderedL T = writeAll (sylOf L)) := by
            have := hp.out
            rw [hkM, List.take_length] at this
            rw [Hid, ← hfin.out]; unfold refReduced; rw [this]
          have s1 : ¬ 9223372036854775807 < O.length + (orderedL T).length := by omega
          have HO := Lib.hid (fun (w' : World) => ordered_same T w' (by omega))
          clear hkM
          go_wp2_with (first
            | (go_at_call 44; refine (HO.out _).mono ?_; rintro e w4 ⟨rfl, rfl⟩)
            | fail)
          go_ret2
          have hS : bL O ++ bL (orderedL T) = bL (writeAll (sylOf L)) := by rw [bL_app, hF.out]
          exact Ret.val (congrArg (fun x => Value.tuple #[.string x, .int .i64 0]) hS) hBk
end Go.Proofs.Ytblifdchofihoaa
