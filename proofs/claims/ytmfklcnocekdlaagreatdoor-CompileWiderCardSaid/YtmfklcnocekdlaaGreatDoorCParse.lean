/- compile.Parse. -/
import Derived.Test.YtmfklcnocekdlaaGreatDoorCRead2
set_option linter.unusedSimpArgs false
set_option linter.unusedVariables false
namespace Go.Proofs.YtmfklcnocekdlaaGreatDoor
open Go Go.RowKit Tor

/-- instructions that are returned, a line and an error -/
def CpRet (w : World) (r : List Tri × Nat × Int) (e : Ending) (w' : World) : Prop := ∃ v, e = .returned (.tuple #[v, .int .i64 (r.2.1 : Nat), .int .i64 r.2.2]) ∧ Tor.Own 3 Tri.enc w' w.heap.size 52 v r.1 ∧ Below w.heap.size w w'
theorem spl10_none : ∀ (T : List UInt8), (∀ c ∈ T, c ≠ 10) → spl 10 T = [T]
  | [], _ => rfl
  | b :: r, h => by
    rw [spl, if_neg (h b (by simp)), spl10_none r (fun c hc => h c (by simp [hc]))]
theorem spl10_app (A : List UInt8) : ∀ (t : List UInt8), (∀ c ∈ t, c ≠ 10) → spl 10 (t ++ 10 :: A) = t :: spl 10 A
  | [], _ => by rw [List.nil_append, spl, if_pos rfl]
  | b :: r, h => by
    rw [List.cons_append, spl, if_neg (h b (by simp)), spl10_app A r (fun c hc => h c (by simp [hc]))]
theorem cut_none : ∀ (T : List UInt8), (∀ c ∈ T, c ≠ 10) → Lib.index T [10] = -1
  | [], _ => rfl
  | b :: r, h => by
    have hp : ([10] : List UInt8).isPrefixOf (b :: r) = false := by simp [List.isPrefixOf]; exact fun e => h b (by simp) e.symm
    have ih := cut_none r (fun c hc => h c (by simp [hc]))
    rcases idx_miss hp with ⟨h1, h2⟩ | ⟨i, h1, h2⟩
    · exact h2
    · rw [h1] at ih; omega
theorem cut_at (A : List UInt8) : ∀ (s : List UInt8), (∀ c ∈ s, c ≠ 10) → Lib.index (s ++ 10 :: A) [10] = (s.length : Nat)
  | [], _ => idx_hit (by simp [List.isPrefixOf])
  | b :: r, h => by
    have hp : ([10] : List UInt8).isPrefixOf (b :: (r ++ 10 :: A)) = false := by simp [List.isPrefixOf]; exact fun e => h b (by simp) e.symm
    have ih := cut_at A r (fun c hc => h c (by simp [hc]))
    rw [List.cons_append]
    rcases idx_miss hp with ⟨h1, h2⟩ | ⟨i, h1, h2⟩
    · rw [h1] at ih; omega
    · rw [h1] at ih
      rw [h2, List.length_cons]; omega
theorem split10 : ∀ (T : List UInt8), (∀ c ∈ T, c ≠ 10) ∨ ∃ s r, T = s ++ 10 :: r ∧ ∀ c ∈ s, c ≠ 10
  | [] => .inl (fun c h => by simp at h)
  | b :: t => by
    by_cases hb : b = 10
    · exact .inr ⟨[], t, by rw [hb]; rfl, fun c h => by simp at h⟩
    · rcases split10 t with h | ⟨s, r, e, h⟩
      · exact .inl (fun c hc => by
          rcases List.mem_cons.1 hc with rfl | hc
          · exact hb
          · exact h c hc)
      · exact .inr ⟨b :: s, r, by rw [e]; rfl, fun c hc => by
          rcases List.mem_cons.1 hc with rfl | hc
          · exact hb
          · exact h c hc⟩
/-- what Cut gives -/
theorem cut_kinds (T : List UInt8) : (Lib.cut T [10] = (T, [], false) ∧ spl 10 T = [T]) ∨ ∃ s r, Lib.cut T [10] = (s, r, true) ∧ spl 10 T = s :: spl 10 r ∧ s.length + r.length < T.length := by
  rcases split10 T with h | ⟨s, r, rfl, h⟩
  · refine .inl ⟨?_, spl10_none T h⟩
    unfold Lib.cut
    rw [cut_none T h]; rfl
  · refine .inr ⟨s, r, ?_, spl10_app r s h, by simp⟩
    unfold Lib.cut
    rw [cut_at r s h, if_pos (by omega)]
    simp only [Int.toNat_natCast, List.take_left']
    rw [show s ++ 10 :: r = (s ++ [10]) ++ r by simp, List.drop_left' (by simp)]
theorem goC_next {k : Nat} {acc : List Tri} {s r : List UInt8} (hk : ¬ 1000 < k) {x : Tri} (hx : readC s = some x) : goC k acc (s :: spl 10 r) = goC (k + 1) (acc ++ [x]) (spl 10 r) := by
  cases hs : spl 10 r with
  | nil => exact absurd hs (spl_ne 10 r)
  | cons y t => rw [goC, if_neg hk, hx]
theorem goC_bad {k : Nat} {acc : List Tri} {s r : List UInt8} (hk : ¬ 1000 < k) (hx : readC s = none) : goC k acc (s :: spl 10 r) = ([], k, 6) := by
  cases hs : spl 10 r with
  | nil => exact absurd hs (spl_ne 10 r)
  | cons y t => rw [goC, if_neg hk, hx]
theorem goC_long {k : Nat} {acc : List Tri} {s r : List UInt8} (hk : 1000 < k) : goC k acc (s :: spl 10 r) = ([], k, 3) := by
  cases hs : spl 10 r with
  | nil => exact absurd hs (spl_ne 10 r)
  | cons y t => rw [goC, if_pos hk]
theorem goC_end {k : Nat} {acc : List Tri} : goC k acc [[]] = (acc, 0, 0) := by rw [goC, if_pos rfl]
theorem goC_last {k : Nat} {acc : List Tri} {s : List UInt8} (h : s ≠ []) : goC k acc [s] = if 1000 < k then ([], k, 3) else ([], k, 6) := by rw [goC, if_neg h]
def strLen : Value → Nat
  | .string s => s.size
  | _ => 0
set_option maxRecDepth 100000 in
set_option maxHeartbeats 8000000 in
theorem cparse_any (L : List UInt8) (w : World) (h : CpAt w) (hl : L.length ≤ 1000000) : Calls Tryz.prog 9 #[.string (bN L)] w (CpRet w (parseC L)) := by
  have hz : (bN L).size = L.length := rfl
  by_cases h4 : 40000 < L.length
  · have hP : Hid (parseC L = ([], 0, 3)) := by rw [Hid]; unfold parseC; rw [if_pos h4]
    rw [hP.out]
    have i1 : (40000 : Int) < (L.length : Int) := by omega
    clear h4 hP
    go_enter Tryz.func9, Tryz.ntmps9
    go_wp2_with fail
    go_ret3
    exact ⟨_, rfl, Own.nil _ _ _, Below.refl _ _⟩
  have i1 : ¬ (40000 : Int) < (L.length : Int) := by omega
  obtain ⟨R, hR⟩ : ∃ R, Hid (parseC L = R) := ⟨_, Lib.hid rfl⟩
  have hR2 : Hid (R = goC 1 [] (spl 10 L)) := by rw [Hid, ← hR.out]; unfold parseC; rw [if_neg h4]
  rw [hR.out]
  obtain ⟨i0, hi0, hz0', hz1', hz2'⟩ := info_parts infoStep
  clear hR h4
  go_enter Tryz.func9, Tryz.ntmps9
  go_wp2_with fail
  refine (kinds_any _).mono ?_
  rintro e w1 ⟨rfl, kK, hB1⟩
  go_wp2_with fail
  go_loopw [0, 2, 3] (fun tv lv kv wr => ∃ (T : List UInt8) (k : Nat) (acc : List Tri), T.length ≤ 1000000 ∧ tv = .string (bN T) ∧ kv = .int .i64 k ∧ k ≤ 1001 ∧ acc.length ≤ k ∧ Hid (R = goC k acc (spl 10 T)) ∧ Tor.Own 3 Tri.enc wr w1.heap.size 52 lv acc ∧ Below w1.heap.size w1 wr) (fun t _ _ _ => strLen t)
  case atStart => exact ⟨L, 1, [], hl, rfl, rfl, by omega, by simp, hR2, Own.nil _ _ _, Below.refl _ _⟩
  case round =>
    obtain ⟨T, k, acc, hTl, rfl, rfl, hk, hak, hst, hown, hB⟩ := hrel
    obtain ⟨wo, rfl⟩ : ∃ wo : World, wo = wr := ⟨_, rfl⟩
    have tT : (bN T).toList = T := Lib.toList_data _
    have zT : (bN T).size = T.length := rfl
    have hs0 := hB.size
    have hBw := hB1.trans (hB.mono hB1.size)
    obtain ⟨Av, cv, rfl, _, _⟩ := Tor.Own.rd tri_len hown
    by_cases hT0 : T = []
    · subst hT0
      have hE : Hid (R = (acc, 0, 0)) := by rw [Hid, hst.out]; exact goC_end
      clear hst
      go_wp2_with fail
      go_ret3
      rw [hE.out]
      exact ⟨_, rfl, hown.base hB1.size, hBw⟩
    have n1 : (T == []) = false := beq_eq_false_iff_ne.2 hT0
    have n2 : T.isEmpty = false := by cases T with | nil => exact absurd rfl hT0 | cons _ _ => rfl
    have hcw := h.below hBw
    obtain ⟨m, hm⟩ := hcw.ml
    have HC := Lib.hid (Tryz.strings_Cut (bN T) ⟨#[10]⟩ m wo (by show T.length < _; omega) hm)
    have hHC := HC.out
    rw [show (bN T).data.toList = T from rfl, show (⟨#[10]⟩ : ByteArray).data.toList = [10] from rfl] at hHC
    have hkw : Blk wo w.heap.size 64 kindCells := kK.below' hB
    rcases cut_kinds T with ⟨hcut, hspl⟩ | ⟨s, r, hcut, hspl, hlen⟩
    · rw [hcut] at hHC
      have HC2 := Lib.hid hHC
      rw [hspl, goC_last hT0] at hst
      clear hcut hspl hHC HC hT0 hm hcw
      by_cases hk1 : 1000 < k
      · have k1 : (1000 : Int) < (k : Int) := by omega
        have hE : Hid (R = ([], k, 3)) := by rw [Hid, hst.out, if_pos hk1]
        clear hst hk1
        go_wp2_with fail
        refine HC2.out.mono ?_
        rintro e w2 ⟨rfl, nd, rfl⟩
        go_wp2_with fail
        go_ret3
        rw [hE.out]
        exact ⟨_, rfl, Own.nil _ _ _, hBw.drewN nd⟩
      · have k1 : ¬ (1000 : Int) < (k : Int) := by omega
        have hE : Hid (R = ([], k, 6)) := by rw [Hid, hst.out, if_neg hk1]
        have HR := Lib.hid (fun w' hw' hk' => cread_any w.heap.size T w' hw' hk' hTl)
        obtain ⟨ok, hok⟩ : ∃ b, Hid ((readC T).isSome = b) := ⟨_, Lib.hid rfl⟩
        have hCd := Lib.hid (fun nd => h.below (hBw.drewN nd))
        clear hst hk1
        go_wp2_with fail
        refine HC2.out.mono ?_
        rintro e w2 ⟨rfl, nd, rfl⟩
        go_wp2_with fail
        refine (HR.out _ (hCd.out nd) hkw).mono ?_
        rintro e w3 ⟨x, rfl, _, hB3⟩
        rw [hok.out]
        have hB3' := (hBw.drewN nd).trans (hB3.mono hBw.size)
        go_wp2_with fail
        all_goals
          go_ret3
          rw [hE.out]
          exact ⟨_, rfl, Own.nil _ _ _, hB3'.alloc hB3'.size _⟩
    · rw [hcut] at hHC
      have HC2 := Lib.hid hHC
      rw [hspl] at hst
      have hsl : s.length ≤ 1000000 := by omega
      have hrl : r.length ≤ 1000000 := by omega
      clear hcut hspl hHC HC hT0 hm hcw
      by_cases hk1 : 1000 < k
      · have k1 : (1000 : Int) < (k : Int) := by omega
        have hE : Hid (R = ([], k, 3)) := by rw [Hid, hst.out, goC_long hk1]
        clear hst hk1
        go_wp2_with fail
        refine HC2.out.mono ?_
        rintro e w2 ⟨rfl, nd, rfl⟩
        go_wp2_with fail
        go_ret3
        rw [hE.out]
        exact ⟨_, rfl, Own.nil _ _ _, hBw.drewN nd⟩
      · have k1 : ¬ (1000 : Int) < (k : Int) := by omega
        have HR := Lib.hid (fun w' hw' hk' => cread_any w.heap.size s w' hw' hk' hsl)
        have hCd := Lib.hid (fun nd => h.below (hBw.drewN nd))
        cases hrd : readC s with
        | none =>
          have hE : Hid (R = ([], k, 6)) := by rw [Hid, hst.out, goC_bad hk1 hrd]
          have hok : Hid ((readC s).isSome = false) := Lib.hid (by rw [hrd]; rfl)
          clear hst hk1 hrd
          go_wp2_with fail
          refine HC2.out.mono ?_
          rintro e w2 ⟨rfl, nd, rfl⟩
          go_wp2_with fail
          refine (HR.out _ (hCd.out nd) hkw).mono ?_
          rintro e w3 ⟨x, rfl, _, hB3⟩
          rw [hok.out]
          have hB3' := (hBw.drewN nd).trans (hB3.mono hBw.size)
          go_wp2_with fail
          go_ret3
          rw [hE.out]
          exact ⟨_, rfl, Own.nil _ _ _, hB3'.alloc hB3'.size _⟩
        | some y =>
          have hN : Hid (R = goC (k + 1) (acc ++ [y]) (spl 10 r)) := by rw [Hid, hst.out, goC_next hk1 hrd]
          have hok : Hid ((readC s).isSome = true) := Lib.hid (by rw [hrd]; rfl)
          have hy : Hid (∀ x, (∀ y, readC s = some y → x = y) → x = y) := Lib.hid (fun x hx => hx y hrd)
          have hak2 : acc.length ≤ 1000000 := by omega
          clear hst hrd
          go_wp2_with fail
          refine HC2.out.mono ?_
          rintro e w2 ⟨rfl, nd, rfl⟩
          go_wp2_with fail
          refine (HR.out _ (hCd.out nd) hkw).mono ?_
          rintro e w3 ⟨x, rfl, hx, hB3⟩
          have hxy := hy.out x hx
          subst hxy
          clear hx
          rw [hok.out]
          have hB3' := (hB.drewN nd).trans (hB3.mono hB.size)
          have z3 := hB3'.size
          have own3 := (hown.drewN nd).below hB3
          have kXX : Hid (Blk ((w3.alloc (.cells #[.int .i64 x.a, .int .i64 x.b, .string x.s] 52)).alloc (.cells #[.int .i64 x.a, .int .i64 x.b, .string x.s] 52)) (w3.heap.size + 1) 52 #[.int .i64 x.a, .int .i64 x.b, .string x.s]) := by
            have hsz : (w3.alloc (.cells #[.int .i64 x.a, .int .i64 x.b, .string x.s] 52)).heap.size = w3.heap.size + 1 := by simp
            have := Blk.new (w3.alloc (.cells #[.int .i64 x.a, .int .i64 x.b, .string x.s] 52)) 52 #[.int .i64 x.a, .int .i64 x.b, .string x.s]
            rw [hsz] at this
            exact this
          have hBx := hB3'.alloc hB3'.size (.cells #[.int .i64 x.a, .int .i64 x.b, .string x.s] 52)
          have ownx := own3.alloc (.cells #[.int .i64 x.a, .int .i64 x.b, .string x.s] 52)
          go_wp2_with (first
            | (at_builtin
               refine wpList_append_tri rfl (.tmp 41) (.tmp 43) _ rfl w1.heap.size _ i0 _ Tryz.underlying22 hi0 hz0' hz1' hz2' rfl _ acc rfl (ownx.alloc _) _ x rfl (kXX.out.cell 0 _ rfl) (kXX.out.cell 1 _ rfl) (kXX.out.cell 2 _ rfl) hak2 (by simp; omega) ?_
               intro v8 w8 hown8 hg8)
            | fail)
          have hB8 := (ownx.alloc (.cells #[.int .i64 x.a, .int .i64 x.b, .string x.s] 52)).grown (hBx.alloc hBx.size (.cells #[.int .i64 x.a, .int .i64 x.b, .string x.s] 52)) hg8 (by simp; omega)
          go_roundw
          case rel => exact ⟨r, k + 1, acc ++ [x], hrl, rfl, by go_num, by omega, by rw [List.length_append]; simp; omega, hN, hown8, hB8⟩
          case measure => show (bN r).size < (bN T).size; rw [zT]; show r.length < _; omega
end Go.Proofs.YtmfklcnocekdlaaGreatDoor
