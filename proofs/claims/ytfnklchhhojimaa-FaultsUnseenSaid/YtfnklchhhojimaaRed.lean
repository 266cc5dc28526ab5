/- stitches.Reduce returns the word, reduced. -/
import Derived.Test.YtfnklchhhojimaaSRow
import Derived.Test.YtfnklchhhojimaaRedM
import Derived.Test.YtfnklchhhojimaaFaultM
import Derived.BigRegion
set_option linter.unusedSimpArgs false
set_option linter.unusedVariables false
namespace Go.Proofs.Ytfnklchhhojimaa
open Go Go.RowKit Tor

theorem word_ok {s : ByteArray} (h : wordE s = 0) : s.size ≤ 16 ∧ ∀ c ∈ s.data.toList, isLetter c = true := by
  unfold wordE at h
  split at h
  · exact absurd h (by decide)
  · split at h
    · rename_i h1 h2
      exact ⟨by omega, List.all_eq_true.1 h2⟩
    · exact absurd h (by decide)
theorem new_at {w : World} {t : TypeId} {cs : List Value} (j : Nat) (u : Value) (h : cs[j]? = some u) : (w.alloc (.cells cs.toArray t)).cell? ((⟨w.heap.size, 0, none⟩ : Addr).add j) = some u := by
  have h2 := (Blk.new w t cs.toArray).cell j u (by simpa using h)
  have e : (⟨w.heap.size, 0, none⟩ : Addr).add j = ⟨w.heap.size, j, none⟩ := by unfold Addr.add; split <;> simp_all
  rw [e]; exact h2
theorem RowG.grown {w w4 w0 : World} {B : Nat} {T : TypeId} {z g n cap : Nat} {xs : List Value} (h : RowG w B T z (.slice (some ⟨g, 0, none⟩) n cap) n xs) (hB : Below B w0 w) (hBz : B ≤ w.heap.size) (hg : w.grownBy w4 (Value.slice (some ⟨g, 0, none⟩) n cap).ownBlock) : Below B w0 w4 := by
  obtain ⟨h1, g', cap', cur, hv, hb, _⟩ := h
  simp only [Value.slice.injEq, Option.some.injEq, Addr.mk.injEq, and_true, true_and] at hv
  obtain ⟨rfl, rfl⟩ := hv
  exact hB.grown hg hBz (fun k hk => by simp [Value.ownBlock] at hk; omega)


/-- the relation of the first loop -/
def RedAt (s : ByteArray) (w1 : World) (v i : Value) (wr : World) : Prop :=
  ∃ k g cap n, k ≤ s.size ∧ i = .int .i64 k ∧ Hid ((sylOf (s.data.toList.take k)).length = n + 1) ∧ v = .slice (some ⟨g, 0, none⟩) (n + 1) cap ∧ SRow wr w1.heap.size g cap (sylOf (s.data.toList.take k)) ∧ Below w1.heap.size w1 wr
theorem RedAt.mk {s : ByteArray} {w1 wr : World} {v i : Value} {st : List Syl} (k g cap : Nat) (hk : k ≤ s.size) (hi : i = .int .i64 k) (hs : Hid (sylOf (s.data.toList.take k) = st)) (hg : goodS st) (hv : v = .slice (some ⟨g, 0, none⟩) st.length cap)
    (hR : SRow wr w1.heap.size g cap st) (hB : Below w1.heap.size w1 wr) : RedAt s w1 v i wr := by
  obtain ⟨x, r, rfl, _⟩ := goodS_ne hg
  refine ⟨k, g, cap, r.length, hk, hi, ?_, by rw [hv]; rfl, ?_, hB⟩
  · rw [hs.out]; exact Lib.hid rfl
  · rw [hs.out]; exact hR

theorem new_at2 {w : World} {t : TypeId} {cs : List Value} {g : Nat} (hg : g = w.heap.size) (j : Nat) (u : Value) (h : cs[j]? = some u) : (w.alloc (.cells cs.toArray t)).cell? ((⟨g, 0, none⟩ : Addr).add j) = some u := by
  subst hg; exact new_at j u h
theorem SRow.row {w : World} {base g cap n : Nat} {st : List Syl} (h : SRow w base g cap st) (hn : st.length = n) : RowG w base 111 4 (.slice (some ⟨g, 0, none⟩) n cap) n (st.reverse.flatMap Syl.enc) := by
  subst hn; exact h
theorem step_pin (st : List Syl) : sylStep st 80 = ⟨0, 0, 0, false⟩ :: ⟨0, 0, 0, true⟩ :: st := by simp [sylStep]
theorem step_tw {x : Syl} {r : List Syl} {c : UInt8} (h : c ≠ 80) (h0 : twM c = 0) : sylStep (x :: r) c = ⟨x.m, x.l + twL c, x.r + twR c, x.pin⟩ :: r := by simp [sylStep, h, h0]
theorem step_mid {x : Syl} {r : List Syl} {c : UInt8} (h : c ≠ 80) (h0 : twM c ≠ 0) (h1 : x.l = 0 ∧ x.r = 0) (h2 : ¬ (x.m + twM c = 0 ∧ pinHead r = false)) : sylStep (x :: r) c = ⟨x.m + twM c, x.l, x.r, x.pin⟩ :: r := by
  simp only [sylStep, h, h0, if_false]
  rw [if_pos h1, if_neg h2]
theorem step_pop {x : Syl} {r : List Syl} {c : UInt8} (h : c ≠ 80) (h0 : twM c ≠ 0) (h1 : x.l = 0 ∧ x.r = 0) (h2 : x.m + twM c = 0 ∧ pinHead r = false) : sylStep (x :: r) c = r := by
  simp only [sylStep, h, h0, if_false]
  rw [if_pos h1, if_pos h2]
theorem step_new {x : Syl} {r : List Syl} {c : UInt8} (h : c ≠ 80) (h0 : twM c ≠ 0) (h1 : ¬ (x.l = 0 ∧ x.r = 0)) : sylStep (x :: r) c = ⟨twM c, 0, 0, false⟩ :: x :: r := by
  simp only [sylStep, h, h0, if_false]
  rw [if_neg h1]


set_option maxRecDepth 100000 in
set_option maxHeartbeats 16000000 in
theorem reduce_any (s : ByteArray) (w : World) (hs : s.size ≤ 9223372036854775807) :
    Calls Try.prog 61 #[.string s] w fun e w' => e = .returned (.tuple #[.string (if wordE s = 0 then redW s else ⟨#[]⟩), .int .i64 (wordE s)]) ∧ Below w.heap.size w w' := by
  obtain ⟨i0, hi, hz0, hz1, hz2⟩ := info_parts infoSyl
  by_cases h0 : wordE s = 0
  rotate_left
  · rw [if_neg h0]
    obtain ⟨e, he⟩ : ∃ e, Hid (wordE s = e) := ⟨_, Lib.hid rfl⟩
    rw [he.out] at h0 ⊢
    go_enter Try.func61, Try.ntmps61
    go_wp2_with (first
      | (go_at_call 59; refine (word_any s w hs).mono ?_; rintro e w1 ⟨rfl, hB1⟩; rw [he.out])
      | fail)
    go_ret2
    exact ⟨rfl, hB1⟩
  · rw [if_pos h0]
    have hok := word_ok h0
    have HE := Lib.hid h0
    rw [h0]
    have hL : Hid (∀ (k : Nat) (hk : k < s.size), isLetter s[k] = true) := Lib.hid (fun k hk => hok.2 _ (List.mem_of_getElem? (bget s k hk)))
    have hs16 := hok.1
    clear h0 hok
    go_enter Try.func61, Try.ntmps61
    go_wp2_with (first
      | (go_at_call 59; refine (word_any s w hs).mono ?_; rintro e w1 ⟨rfl, hB1⟩; rw [HE.out])
      | fail)
    go_loopw [5, 22] (fun v i wr => RedAt s w1 v i wr) (fun _ i _ => s.size - (intOf i).toNat)
    case atStart => exact RedAt.mk (st := [⟨0, 0, 0, false⟩]) 0 w1.heap.size 1 (Nat.zero_le _) rfl (Lib.hid rfl) rfl rfl (SRow.first w1 ⟨0, 0, 0, false⟩ _ (Nat.le_refl _)) (by (repeat' first | exact Below.refl _ _ | apply Below.drew | (refine Below.setCells ?_ _ _ ?_) | (refine Below.setCell ?_ ?_ _) | (refine Below.alloc ?_ ?_ _) | (simp; done) | (simp; omega)))
    case round =>
      obtain ⟨k, g, cap, n, hk, rfl, hn, rfl, hR, hB⟩ := hrel
      have hzr := hB.size
      by_cases hlt : k < s.size
      · obtain ⟨c, hc⟩ : ∃ c, Hid (s[k] = c) := ⟨_, Lib.hid rfl⟩
        have hcl : isLetter c = true := by rw [← hc.out]; exact hL.out k hlt
        have hst : Hid (sylOf (s.data.toList.take (k + 1)) = sylStep (sylOf (s.data.toList.take k)) c) := by
          rw [Hid, sylOf_take _ _ (by rw [bsize]; exact hlt), ← hc.out]; congr 1
        have hgood := sylOf_good (s.data.toList.take k)
        have hgood' := sylOf_good (s.data.toList.take (k + 1))
        rw [hst.out] at hgood'
        have hin := sylOf_in (s.data.toList.take k)
        have hlen := sylOf_len (s.data.toList.take k)
        rw [List.length_take, bsize] at hlen hin
        generalize sylOf (s.data.toList.take k) = st at *
        obtain ⟨x, r, rfl, hxp⟩ := goodS_ne hgood
        have hrl : r.length = n := by have := hn.out; simpa using this
        have hn34 : n ≤ 33 := by simp only [List.length_cons] at hlen; omega
        have hin := hin x (by simp)
        unfold Syl.inB at hin
        have hHR := Lib.hid hR
        have t0 := tw_in c
        by_cases hP : c = 80
        · have b0 : ((s[k].toNat : Int) == 80) = true := by rw [hc.out, hP]; rfl
          rw [hP, step_pin] at hst hgood'
          clear hP hc
          go_wp2_with (first
            | (at_builtin; refine wpList_append_G rfl (.tmp 29) (.tmp 32) _ rfl w1.heap.size _ i0 _ 4 32 Try.underlying112 hi hz0 hz1 hz2 rfl (by decide) _ (n + 1) _ rfl ((hHR.out.alloc _).row hn.out) ⟨wr.heap.size, 0, none⟩ 2 2 [.int .i64 0, .int .i64 0, .int .i64 0, .bool true, .int .i64 0, .int .i64 0, .int .i64 0, .bool false] rfl rfl new_at (by decide) (by unfold maxLen; omega) (by omega) (by simp; omega) ?_; intro v' w4 hR4 hg4)
            | fail)
          go_roundw
          case rel =>
            obtain ⟨g', cap', rfl, hR5⟩ := SRow.of (st := ⟨0, 0, 0, false⟩ :: ⟨0, 0, 0, true⟩ :: x :: r) hR4 (by simp only [List.length_cons]; omega) (by simp [Syl.enc])
            refine RedAt.mk (k + 1) g' cap' (by omega) (by go_num) hst hgood' rfl hR5 ?_
            exact RowG.grown ((hHR.out.alloc _).row hn.out) (hB.alloc hzr _) (by simp; omega) hg4
          case measure => simp [intOf]; omega
        · have b0 : ((s[k].toNat : Int) == 80) = false := by
            rw [hc.out]
            have : c.toNat ≠ 80 := fun e => hP (UInt8.toNat_inj.1 e)
            simp; omega
          have HP := Lib.hid hP
          clear hP
          obtain ⟨tl, htl⟩ : ∃ t, Hid (twL c = t) := ⟨_, Lib.hid rfl⟩
          obtain ⟨tm, htm⟩ : ∃ t, Hid (twM c = t) := ⟨_, Lib.hid rfl⟩
          obtain ⟨tr, htr⟩ : ∃ t, Hid (twR c = t) := ⟨_, Lib.hid rfl⟩
          rw [htl.out, htm.out, htr.out] at t0
          have htw : ∀ w', Calls Try.prog 74 #[.int .u8 c.toNat] w' (Ret (.agg #[.int .i64 tl, .int .i64 tm, .int .i64 tr]) w') := fun w' => by
            have := twists_any c w' hcl HP.out
            rwa [twV, htl.out, htm.out, htr.out] at this
          have HTW := Lib.hid htw
          clear htw
          have w0 : IntKind.i64.wrap (n : Int) = n := IntWalk.i64_in _ (by omega)
          have w1' : IntKind.i64.wrap ((n : Int) + 1 - 1) = n := by rw [show (n : Int) + 1 - 1 = n by omega]; exact IntWalk.i64_in _ (by omega)
          have w2 : IntKind.i64.wrap (x.l + tl) = x.l + tl := IntWalk.i64_in _ (by omega)
          have w3 : IntKind.i64.wrap (x.r + tr) = x.r + tr := IntWalk.i64_in _ (by omega)
          have w4 : IntKind.i64.wrap (x.m + tm) = x.m + tm := IntWalk.i64_in _ (by omega)
          by_cases hm0 : tm = 0
          · have b1 : (tm == 0) = true := by rw [hm0]; rfl
            have hst2 : Hid (sylOf (s.data.toList.take (k + 1)) = ⟨x.m, x.l + tl, x.r + tr, x.pin⟩ :: r) := by
              rw [Hid, hst.out, step_tw HP.out (htm.out.trans hm0), htl.out, htr.out]
            rw [step_tw HP.out (htm.out.trans hm0), htl.out, htr.out] at hgood'
            have HM := Lib.hid hm0
            clear hm0 hst
            go_wp2_with (first
              | (go_at_call 74; rw [hc.out]; refine (HTW.out _).mono ?_; rintro e w2 ⟨rfl, hB2⟩
                 have hR2 := (hHR.out.below hB2).alloc (.cells #[.int .i64 tl, .int .i64 tm, .int .i64 tr] 113)
                 have kT := Blk.new w2 113 #[.int .i64 tl, .int .i64 tm, .int .i64 tr]
                 have hBW : Below w1.heap.size w1 (w2.alloc (.cells #[.int .i64 tl, .int .i64 tm, .int .i64 tr] 113)) := (hB.trans (hB2.mono hzr)).alloc (Nat.le_trans hzr hB2.size) _
                 obtain ⟨s0, s1, s2, s3⟩ := hR2.cells
                 rw [hrl] at s0 s1 s2 s3
                 have z0 := hR2.frozen (n * 4)
                 have z1 := hR2.frozen (n * 4 + 1)
                 have z2 := hR2.frozen (n * 4 + 2)
                 have k0 := kT.cell 0 _ rfl
                 have k1 := kT.cell 1 _ rfl
                 have k2 := kT.cell 2 _ rfl
                 have kl := kT.lt
                 have gl := hR2.lt)
              | fail)
            generalize w2.alloc (.cells #[.int .i64 tl, .int .i64 tm, .int .i64 tr] 113) = W at *
            go_region
            go_wp2_with fail
            go_roundw
            case rel =>
              refine RedAt.mk (k + 1) g cap (by omega) (by go_num) hst2 hgood' (by rw [List.length_cons, hrl]) ?_ ?_
              · have h7 := ((hR2.drew.set_ (j := 1) (y := ⟨x.m, x.l + tl, x.r, x.pin⟩) (u := .int .i64 (x.l + tl)) (by decide) rfl).set_ (j := 2) (y := ⟨x.m, x.l + tl, x.r + tr, x.pin⟩) (u := .int .i64 (x.r + tr)) (by decide) rfl).drew
                rw [hrl] at h7; exact h7
              · have hg0 := hR2.heap.1
                (repeat' first | assumption | exact Below.refl _ _ | apply Below.drew | (refine Below.setCells ?_ _ _ ?_) | (refine Below.setCell ?_ ?_ _) | (refine Below.alloc ?_ ?_ _) | (simp; done) | (simp; omega))
            case measure => simp [intOf]; omega
          · have b1 : (tm == 0) = false := by simpa using hm0
            have w6 : IntKind.i64.wrap ((n : Int) + 1 - 2) = (n : Int) - 1 := by rw [show (n : Int) + 1 - 2 = n - 1 by omega]; exact IntWalk.i64_in _ (by omega)
            have w7 : IntKind.i64.wrap ((n : Int) - 1) = (n : Int) - 1 := IntWalk.i64_in _ (by omega)
            rcases (show (x.l = 0 ∧ x.r = 0) ∨ ¬ x.l = 0 ∨ (x.l = 0 ∧ ¬ x.r = 0) by omega) with ⟨h1, h2⟩ | h1 | ⟨h1, h2⟩
            · have b2 : (x.l == 0) = true := by rw [h1]; rfl
              have b3 : (x.r == 0) = true := by rw [h2]; rfl
              have H12 := Lib.hid (And.intro h1 h2)
              clear h1 h2
              by_cases hmz : x.m + tm = 0
              · have b4 : (x.m + tm == 0) = true := by rw [hmz]; rfl
                cases r with
                | nil =>
                  have HR0 : Hid (pinHead [] = true) := Lib.hid rfl
                  have hn0 : (n : Int) < 1 := by simp at hrl; omega
                  have hmid := step_mid (r := []) HP.out (by rw [htm.out]; exact hm0) H12.out (by rw [htm.out]; exact fun e => absurd e.2 (by decide))
                  rw [htm.out] at hmid
                  have hst2 := Lib.hid (hst.out.trans hmid)
                  rw [hmid] at hgood'
                  clear hst hmid hmz hm0
                  go_wp2_with (first
                    | (go_at_call 74; rw [hc.out]; refine (HTW.out _).mono ?_; rintro e w2 ⟨rfl, hB2⟩
                       have hR2 := (hHR.out.below hB2).alloc (.cells #[.int .i64 tl, .int .i64 tm, .int .i64 tr] 113)
                       have kT := Blk.new w2 113 #[.int .i64 tl, .int .i64 tm, .int .i64 tr]
                       have hBW : Below w1.heap.size w1 (w2.alloc (.cells #[.int .i64 tl, .int .i64 tm, .int .i64 tr] 113)) := (hB.trans (hB2.mono hzr)).alloc (Nat.le_trans hzr hB2.size) _
                       obtain ⟨s0, s1, s2, s3⟩ := hR2.cells
                       rw [hrl] at s0 s1 s2 s3
                       have z0 := hR2.frozen (n * 4)
                       have z1 := hR2.frozen (n * 4 + 1)
                       have z2 := hR2.frozen (n * 4 + 2)
                       have k0 := kT.cell 0 _ rfl
                       have k1 := kT.cell 1 _ rfl
                       have k2 := kT.cell 2 _ rfl
                       have kl := kT.lt
                       have gl := hR2.lt)
                    | fail)
                  generalize w2.alloc (.cells #[.int .i64 tl, .int .i64 tm, .int .i64 tr] 113) = W at *
                  go_region
                  go_wp2_with fail
                  go_roundw
                  case rel =>
                    refine RedAt.mk (k + 1) g cap (by omega) (by go_num) hst2 hgood' (by rw [List.length_cons, hrl]) ?_ ?_
                    · have h7 := (hR2.drew.set_ (j := 0) (y := ⟨x.m + tm, x.l, x.r, x.pin⟩) (u := .int .i64 (x.m + tm)) (by decide) rfl).drew
                      rw [hrl] at h7
                      exact h7
                    · have hg0 := hR2.heap.1
                      (repeat' first | assumption | exact Below.refl _ _ | apply Below.drew | (refine Below.setCells ?_ _ _ ?_) | (refine Below.setCell ?_ ?_ _) | (refine Below.alloc ?_ ?_ _) | (simp; done) | (simp; omega))
                  case measure => simp [intOf]; omega
                | cons y r =>
                  obtain ⟨q, hq⟩ : ∃ q, Hid (r.length = q) := ⟨_, Lib.hid rfl⟩
                  have hnq : n = q + 1 := by have := hq.out; simp at hrl; omega
                  have w8 : IntKind.i64.wrap ((n : Int) + 1 - 2) = (q : Int) := by rw [show (n : Int) + 1 - 2 = q by omega]; exact IntWalk.i64_in _ (by omega)
                  have w9 : IntKind.i64.wrap ((n : Int) - 1) = (q : Int) := by rw [show (n : Int) - 1 = q by omega]; exact IntWalk.i64_in _ (by omega)
                  have w10 : IntKind.i64.wrap ((q : Int) + 1) = (q : Int) + 1 := IntWalk.i64_in _ (by omega)
                  have HMZ := Lib.hid hmz
                  have Hnq := Lib.hid hnq
                  have q1 : (q : Int) < (n : Int) + 1 := by omega
                  have q2 : q ≠ n := by omega
                  have hcap := hHR.out.heap.2.2.1
                  have q3 : (q : Int) + 1 ≤ (cap : Int) := by have := hn.out; omega
                  have q4 : ((q : Int) + 1).toNat = q + 1 := by omega
                  have q5 : q + 1 ≤ cap := by omega
                  clear w6 w7
                  cases hyp : y.pin
                  · have hmid := step_pop (r := y :: r) HP.out (by rw [htm.out]; exact hm0) H12.out (by rw [htm.out]; exact ⟨hmz, hyp⟩)
                    have hst2 := Lib.hid (hst.out.trans hmid)
                    rw [hmid] at hgood'
                    have HYP := Lib.hid hyp
                    clear hst hmid hmz hm0 hnq hyp
                    go_wp2_with (first
                      | (go_at_call 74; rw [hc.out]; refine (HTW.out _).mono ?_; rintro e w2 ⟨rfl, hB2⟩
                         have hR2 := (hHR.out.below hB2).alloc (.cells #[.int .i64 tl, .int .i64 tm, .int .i64 tr] 113)
                         have kT := Blk.new w2 113 #[.int .i64 tl, .int .i64 tm, .int .i64 tr]
                         have hBW : Below w1.heap.size w1 (w2.alloc (.cells #[.int .i64 tl, .int .i64 tm, .int .i64 tr] 113)) := (hB.trans (hB2.mono hzr)).alloc (Nat.le_trans hzr hB2.size) _
                         obtain ⟨s0, s1, s2, s3⟩ := hR2.cells
                         rw [hrl] at s0 s1 s2 s3
                         have z0 := hR2.frozen (n * 4)
                         have z1 := hR2.frozen (n * 4 + 1)
                         have z2 := hR2.frozen (n * 4 + 2)
                         have k0 := kT.cell 0 _ rfl
                         have k1 := kT.cell 1 _ rfl
                         have k2 := kT.cell 2 _ rfl
                         have s4 := hR2.prev
                         rw [hq.out, HYP.out] at s4
                         have kl := kT.lt
                         have gl := hR2.lt)
                      | fail)
                    generalize w2.alloc (.cells #[.int .i64 tl, .int .i64 tm, .int .i64 tr] 113) = W at *
                    go_region
                    go_wp2_with fail
                    go_roundw
                    case rel =>
                      refine RedAt.mk (k + 1) g (q + 1) (by omega) (by go_num) hst2 hgood' (by rw [List.length_cons, hq.out]) ?_ ?_
                      · have h7 := (hR2.drew.set_ (j := 0) (y := ⟨x.m + tm, x.l, x.r, x.pin⟩) (u := .int .i64 (x.m + tm)) (by decide) rfl).drew
                        rw [hrl] at h7
                        have h8 := SRow.pop h7 (by simp)
                        rw [List.length_cons, hq.out] at h8
                        exact h8
                      · have hg0 := hR2.heap.1
                        (repeat' first | assumption | exact Below.refl _ _ | apply Below.drew | (refine Below.setCells ?_ _ _ ?_) | (refine Below.setCell ?_ ?_ _) | (refine Below.alloc ?_ ?_ _) | (simp; done) | (simp; omega))
                    case measure => simp [intOf]; omega
                  · have hmid := step_mid (r := y :: r) HP.out (by rw [htm.out]; exact hm0) H12.out (by rw [htm.out]; exact fun e => absurd e.2 (by simp [pinHead, hyp]))
                    rw [htm.out] at hmid
                    have hst2 := Lib.hid (hst.out.trans hmid)
                    rw [hmid] at hgood'
                    have HYP := Lib.hid hyp
                    clear hst hmid hmz hm0 hnq hyp
                    go_wp2_with (first
                      | (go_at_call 74; rw [hc.out]; refine (HTW.out _).mono ?_; rintro e w2 ⟨rfl, hB2⟩
                         have hR2 := (hHR.out.below hB2).alloc (.cells #[.int .i64 tl, .int .i64 tm, .int .i64 tr] 113)
                         have kT := Blk.new w2 113 #[.int .i64 tl, .int .i64 tm, .int .i64 tr]
                         have hBW : Below w1.heap.size w1 (w2.alloc (.cells #[.int .i64 tl, .int .i64 tm, .int .i64 tr] 113)) := (hB.trans (hB2.mono hzr)).alloc (Nat.le_trans hzr hB2.size) _
                         obtain ⟨s0, s1, s2, s3⟩ := hR2.cells
                         rw [hrl] at s0 s1 s2 s3
                         have z0 := hR2.frozen (n * 4)
                         have z1 := hR2.frozen (n * 4 + 1)
                         have z2 := hR2.frozen (n * 4 + 2)
                         have k0 := kT.cell 0 _ rfl
                         have k1 := kT.cell 1 _ rfl
                         have k2 := kT.cell 2 _ rfl
                         have s4 := hR2.prev
                         rw [hq.out, HYP.out] at s4
                         have kl := kT.lt
                         have gl := hR2.lt)
                      | fail)
                    generalize w2.alloc (.cells #[.int .i64 tl, .int .i64 tm, .int .i64 tr] 113) = W at *
                    go_region
                    go_wp2_with fail
                    go_roundw
                    case rel =>
                      refine RedAt.mk (k + 1) g cap (by omega) (by go_num) hst2 hgood' (by rw [List.length_cons, hrl]) ?_ ?_
                      · have h7 := (hR2.drew.set_ (j := 0) (y := ⟨x.m + tm, x.l, x.r, x.pin⟩) (u := .int .i64 (x.m + tm)) (by decide) rfl).drew
                        rw [hrl] at h7
                        exact h7
                      · have hg0 := hR2.heap.1
                        (repeat' first | assumption | exact Below.refl _ _ | apply Below.drew | (refine Below.setCells ?_ _ _ ?_) | (refine Below.setCell ?_ ?_ _) | (refine Below.alloc ?_ ?_ _) | (simp; done) | (simp; omega))
                    case measure => simp [intOf]; omega
              · have b4 : (x.m + tm == 0) = false := by simpa using hmz
                have hmid := step_mid (r := r) HP.out (by rw [htm.out]; exact hm0) H12.out (by rw [htm.out]; exact fun e => hmz e.1)
                rw [htm.out] at hmid
                have hst2 := Lib.hid (hst.out.trans hmid)
                rw [hmid] at hgood'
                clear hst hmid hmz hm0
                go_wp2_with (first
                  | (go_at_call 74; rw [hc.out]; refine (HTW.out _).mono ?_; rintro e w2 ⟨rfl, hB2⟩
                     have hR2 := (hHR.out.below hB2).alloc (.cells #[.int .i64 tl, .int .i64 tm, .int .i64 tr] 113)
                     have kT := Blk.new w2 113 #[.int .i64 tl, .int .i64 tm, .int .i64 tr]
                     have hBW : Below w1.heap.size w1 (w2.alloc (.cells #[.int .i64 tl, .int .i64 tm, .int .i64 tr] 113)) := (hB.trans (hB2.mono hzr)).alloc (Nat.le_trans hzr hB2.size) _
                     obtain ⟨s0, s1, s2, s3⟩ := hR2.cells
                     rw [hrl] at s0 s1 s2 s3
                     have z0 := hR2.frozen (n * 4)
                     have z1 := hR2.frozen (n * 4 + 1)
                     have z2 := hR2.frozen (n * 4 + 2)
                     have k0 := kT.cell 0 _ rfl
                     have k1 := kT.cell 1 _ rfl
                     have k2 := kT.cell 2 _ rfl
                     have kl := kT.lt
                     have gl := hR2.lt)
                  | fail)
                generalize w2.alloc (.cells #[.int .i64 tl, .int .i64 tm, .int .i64 tr] 113) = W at *
                go_region
                go_wp2_with fail
                go_roundw
                case rel =>
                  refine RedAt.mk (k + 1) g cap (by omega) (by go_num) hst2 hgood' (by rw [List.length_cons, hrl]) ?_ ?_
                  · have h7 := (hR2.drew.set_ (j := 0) (y := ⟨x.m + tm, x.l, x.r, x.pin⟩) (u := .int .i64 (x.m + tm)) (by decide) rfl).drew
                    rw [hrl] at h7
                    exact h7
                  · have hg0 := hR2.heap.1
                    (repeat' first | assumption | exact Below.refl _ _ | apply Below.drew | (refine Below.setCells ?_ _ _ ?_) | (refine Below.setCell ?_ ?_ _) | (refine Below.alloc ?_ ?_ _) | (simp; done) | (simp; omega))
                case measure => simp [intOf]; omega
            · have b2 : (x.l == 0) = false := by simpa using h1
              have hmid := step_new (x := x) (r := r) HP.out (by rw [htm.out]; exact hm0) (fun e => h1 e.1)
              rw [htm.out] at hmid
              have hst2 := Lib.hid (hst.out.trans hmid)
              rw [hmid] at hgood'
              clear hst hmid hm0 h1
              go_wp2_with (first
                | (go_at_call 74; rw [hc.out]; refine (HTW.out _).mono ?_; rintro e w2 ⟨rfl, hB2⟩
                   have hR2 := (hHR.out.below hB2).alloc (.cells #[.int .i64 tl, .int .i64 tm, .int .i64 tr] 113)
                   have kT := Blk.new w2 113 #[.int .i64 tl, .int .i64 tm, .int .i64 tr]
                   have hBW : Below w1.heap.size w1 (w2.alloc (.cells #[.int .i64 tl, .int .i64 tm, .int .i64 tr] 113)) := (hB.trans (hB2.mono hzr)).alloc (Nat.le_trans hzr hB2.size) _
                   obtain ⟨s0, s1, s2, s3⟩ := hR2.cells
                   rw [hrl] at s0 s1 s2 s3
                   have z0 := hR2.frozen (n * 4)
                   have z1 := hR2.frozen (n * 4 + 1)
                   have z2 := hR2.frozen (n * 4 + 2)
                   have k0 := kT.cell 0 _ rfl
                   have k1 := kT.cell 1 _ rfl
                   have k2 := kT.cell 2 _ rfl
                   have kl := kT.lt
                   have gl := hR2.lt)
                | (at_builtin; refine wpList_append_G rfl (.tmp 113) (.tmp 117) _ rfl w1.heap.size _ i0 _ 4 32 Try.underlying112 hi hz0 hz1 hz2 rfl (by decide) _ (n + 1) _ rfl ((hR2.alloc _).row hn.out) ⟨w2.heap.size + 1, 0, none⟩ 1 1 [.int .i64 tm, .int .i64 0, .int .i64 0, .bool false] rfl rfl (new_at2 (by simp)) (by intro u hu; simp at hu; rcases hu with rfl | rfl | rfl <;> rfl) (by unfold maxLen; omega) (by omega) (by have := hBW.size; simp at this ⊢; omega) ?_; intro v' w4 hR4 hg4)
                | fail)
              go_roundw
              case rel =>
                obtain ⟨g', cap', rfl, hR5⟩ := SRow.of (st := ⟨tm, 0, 0, false⟩ :: x :: r) hR4 (by simp only [List.length_cons]; omega) (by simp [Syl.enc])
                refine RedAt.mk (k + 1) g' cap' (by omega) (by go_num) hst2 hgood' rfl hR5 ?_
                exact RowG.grown ((hR2.alloc _).row hn.out) (hBW.alloc hBW.size _) (by have := hBW.size; simp at this ⊢; omega) hg4
              case measure => simp [intOf]; omega
            · have b2 : (x.l == 0) = true := by rw [h1]; rfl
              have b3 : (x.r == 0) = false := by simpa using h2
              have hmid := step_new (x := x) (r := r) HP.out (by rw [htm.out]; exact hm0) (fun e => h2 e.2)
              rw [htm.out] at hmid
              have hst2 := Lib.hid (hst.out.trans hmid)
              rw [hmid] at hgood'
              clear hst hmid hm0 h1 h2
              go_wp2_with (first
                | (go_at_call 74; rw [hc.out]; refine (HTW.out _).mono ?_; rintro e w2 ⟨rfl, hB2⟩
                   have hR2 := (hHR.out.below hB2).alloc (.cells #[.int .i64 tl, .int .i64 tm, .int .i64 tr] 113)
                   have kT := Blk.new w2 113 #[.int .i64 tl, .int .i64 tm, .int .i64 tr]
                   have hBW : Below w1.heap.size w1 (w2.alloc (.cells #[.int .i64 tl, .int .i64 tm, .int .i64 tr] 113)) := (hB.trans (hB2.mono hzr)).alloc (Nat.le_trans hzr hB2.size) _
                   obtain ⟨s0, s1, s2, s3⟩ := hR2.cells
                   rw [hrl] at s0 s1 s2 s3
                   have z0 := hR2.frozen (n * 4)
                   have z1 := hR2.frozen (n * 4 + 1)
                   have z2 := hR2.frozen (n * 4 + 2)
                   have k0 := kT.cell 0 _ rfl
                   have k1 := kT.cell 1 _ rfl
                   have k2 := kT.cell 2 _ rfl
                   have kl := kT.lt
                   have gl := hR2.lt)
                | (at_builtin; refine wpList_append_G rfl (.tmp 113) (.tmp 117) _ rfl w1.heap.size _ i0 _ 4 32 Try.underlying112 hi hz0 hz1 hz2 rfl (by decide) _ (n + 1) _ rfl ((hR2.alloc _).row hn.out) ⟨w2.heap.size + 1, 0, none⟩ 1 1 [.int .i64 tm, .int .i64 0, .int .i64 0, .bool false] rfl rfl (new_at2 (by simp)) (by intro u hu; simp at hu; rcases hu with rfl | rfl | rfl <;> rfl) (by unfold maxLen; omega) (by omega) (by have := hBW.size; simp at this ⊢; omega) ?_; intro v' w4 hR4 hg4)
                | fail)
              go_roundw
              case rel =>
                obtain ⟨g', cap', rfl, hR5⟩ := SRow.of (st := ⟨tm, 0, 0, false⟩ :: x :: r) hR4 (by simp only [List.length_cons]; omega) (by simp [Syl.enc])
                refine RedAt.mk (k + 1) g' cap' (by omega) (by go_num) hst2 hgood' rfl hR5 ?_
                exact RowG.grown ((hR2.alloc _).row hn.out) (hBW.alloc hBW.size _) (by have := hBW.size; simp at this ⊢; omega) hg4
              case measure => simp [intOf]; omega
      · have hk' : k = s.size := by omega
        have hall : s.data.toList.take k = s.data.toList := by rw [hk']; exact List.take_of_length_le (by rw [bsize]; exact Nat.le_refl _)
        rw [hall] at hn hR
        have hsm : Hid (∀ x ∈ sylOf s.data.toList, x.small) := Lib.hid (fun x hx => by
          have h9 := sylOf_in s.data.toList x hx
          rw [bsize] at h9
          unfold Syl.inB at h9
          unfold Syl.small
          omega)
        have hlen := sylOf_len s.data.toList
        rw [bsize] at hlen
        have hred : Hid (redW s = ⟨(writeAll (sylOf s.data.toList)).toArray⟩) := Lib.hid rfl
        generalize sylOf s.data.toList = st at *
        have hn' := hn.out
        have hn34 : n + 1 ≤ 33 := by omega
        clear hall hk' hL
        obtain ⟨w2, rfl⟩ : ∃ wo : World, wo = wr := ⟨_, rfl⟩
        have hgl := hR.lt
        have hz2' := hB.size
        have hBo : Below w.heap.size w w2 := hB1.trans (hB.mono hB1.size)
        have HRW := Lib.hid hR
        have hrl : st.reverse.length = n + 1 := by rw [List.length_reverse]; exact hn'
        clear hR hn'
        go_wp2_with fail
        go_loopw [122] (fun i wr => ∃ (j : Nat) (bs : List UInt8), j ≤ n + 1 ∧ i = .int .i64 j ∧ Hid (bs = (st.reverse.take j).flatMap Syl.write) ∧ bs.length ≤ j * 14000 ∧ IsB w2.heap.size w2.heap.size (Lib.byteCells bs) wr ∧ Below w2.heap.size w2 wr) (fun i _ => n + 1 - (intOf i).toNat)
        case atStart => exact ⟨0, [], Nat.zero_le _, rfl, Lib.hid rfl, by simp, Lib.fresh_isBuilder _ _ _, by (repeat' first | exact Below.refl _ _ | apply Below.drew | (refine Below.setCells ?_ _ _ ?_) | (refine Below.setCell ?_ ?_ _) | (refine Below.alloc ?_ ?_ _) | (simp; done) | (simp; omega))⟩
        case round =>
          obtain ⟨j, bs, hj, rfl, hbs, hbl, hI, hB2⟩ := hrel
          have hzB := hB2.size
          by_cases hlt2 : j < n + 1
          · have hjr : j < st.reverse.length := by omega
            have hRr := HRW.out.below hB2
            obtain ⟨s0, s1, s2, s3⟩ := hRr.at hjr
            have hsx : (st.reverse[j]).small := hsm.out _ (List.mem_reverse.1 (List.getElem_mem hjr))
            have hnext : Hid ((st.reverse.take (j + 1)).flatMap Syl.write = (st.reverse.take j).flatMap Syl.write ++ (st.reverse[j]).write) := by
              rw [Hid, Tor.take_snoc _ _ hjr, List.flatMap_append]; simp
            generalize st.reverse[j] = x at *
            have j0 : (0 : Int) ≤ (j : Int) := by omega
            have j1 : (j : Int) < (n : Int) + 1 := by omega
            have hBx := hB2.alloc hzB (.cells #[.int .i64 x.m, .int .i64 x.l, .int .i64 x.r, .bool x.pin] 111)
            have hIx : IsB w2.heap.size w2.heap.size (Lib.byteCells bs) (wr.alloc (.cells #[.int .i64 x.m, .int .i64 x.l, .int .i64 x.r, .bool x.pin] 111)) := hI.below (by (repeat' first | exact Below.refl _ _ | apply Below.drew | (refine Below.setCells ?_ _ _ ?_) | (refine Below.setCell ?_ ?_ _) | (refine Below.alloc ?_ ?_ _) | (simp; done) | (simp; omega)))
            have hgr := hRr.lt
            go_wp2_with (first
              | (go_at_call 75; refine (write_any w2.heap.size w2.heap.size bs x _ hIx (by simp; omega) (by omega) hsx).mono ?_; rintro e w3 ⟨rfl, bs', hbs', hbl', hI', hB3, hK3⟩)
              | fail)
            go_roundw
            case rel => exact ⟨j + 1, bs', by omega, by go_num, by rw [Hid, hbs'.out, hbs.out, hnext.out], by omega, hI', hBx.trans hB3⟩
            case measure => simp [intOf]; omega
          · have hj' : j = n + 1 := by omega
            subst hj'
            have hbs2 : Hid (writeAll st = bs) := by
              rw [Hid, hbs.out, writeAll, List.take_of_length_le (by omega)]
            go_wp2_with (first
              | (go_at_call 76; refine (Try.Builder_String_any w2.heap.size w2.heap.size _ _ hI hzB).mono ?_; rintro e w5 ⟨rfl, hB5⟩)
              | fail)
            go_ret2
            rw [hred.out, hbs2.out]
            exact ⟨rfl, hBo.trans ((hB2.trans hB5).mono hBo.size)⟩
end Go.Proofs.Ytfnklchhhojimaa
