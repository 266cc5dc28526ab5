/- faults: the iterator, walked. -/
import Derived.Test.YtblifdchofihoaaAllI
set_option linter.unusedSimpArgs false
set_option linter.unusedVariables false
namespace Go.Proofs.Ytblifdchofihoaa
open Go Go.RowKit Go.Shelf Tor
attribute [local go_sem] Oper.semAt_some

/-- the faults that fit -/
abbrev FtA (l : List Tri) := { f : Flt // shapedF f = true ∧ fitsF l f = true }
theorem lets_nn (k : Int) (x : Tri) : 0 ≤ letsF k x := by
  unfold letsF
  (repeat' split) <;> omega

set_option maxRecDepth 100000 in
set_option maxHeartbeats 8000000 in
theorem faults1_in (n lp H g : Nat) (K : KAt) (A : Option Addr) (l : List Tri) (c b1 b2 : Nat) (J Jx : List (FtA l) → World → Prop)
    (hl : l.length ≤ 1000) (hs : ∀ (k : Nat) (hk : k < l.length), l[k].s.size ≤ 1000)
    (hJ : ∀ pre w w', J pre w → Below w.heap.size w w' → J pre w')
    (hY : ∀ pre (x : FtA l) W, J pre W → pre.length < (fitA l).length → YieldAt Fence.wide (n - 1) Try.prog lp #[.agg #[.int .i64 x.1.k, .int .i64 x.1.st, .int .i64 x.1.lt, .int .i64 x.1.wi]] W fun e W' =>
      (e = .returned (.bool true) ∧ J (pre ++ [x]) W' ∧ KpF H W W') ∨ (e = .returned (.bool false) ∧ Jx (pre ++ [x]) W'))
    (W : World) (hI : ItAt W H g K A l c b1 b2) (h0 : J [] W) :
    CallsIn Fence.wide n Try.prog 85 #[.func (.yield lp) #[] #[], .pointer (some ⟨b1, 0, none⟩), .pointer (some ⟨b2, 0, none⟩)] W fun e W' =>
      (∃ v, e = .returned v) ∧ ((∃ ys : List (FtA l), ys.map (·.1) = fitA l ∧ J ys W') ∨ (∃ pre : List (FtA l), pre.map (·.1) <+: fitA l ∧ Jx pre W')) := by
  have HY := Lib.hid hY
  have HJ := Lib.hid hJ
  have HS := Lib.hid hs
  clear hY hJ hs
  refine callsIn_of_wp Try.func85 rfl trivial ?_ rfl
  simp only [Try.ntmps85, List.size_toArray, List.length_cons, List.length_nil, Nat.reduceAdd, Nat.reduceSub, Array.replicate_succ, Array.replicate_zero, List.push_toArray, List.append_toArray, List.nil_append, List.cons_append]
  have q1 := hI.x1.cell 0 _ rfl
  gi_wp2
  gi_loopw [14] (fun i wr => ∃ (a : Nat) (pre : List (FtA l)), a ≤ l.length ∧ i = .int .i64 a ∧ ItAt wr H g K A l c b1 b2 ∧ pre.map (·.1) = pre1 l a ∧ J pre wr) (fun i wr => l.length - (intOf i).toNat)
  case atStart => exact ⟨0, [], by omega, rfl, hI, rfl, h0⟩
  case round =>
    obtain ⟨a, pre, ha, rfl, hI1, hp1, hJ1⟩ := hrel
    obtain ⟨w1, rfl⟩ : ∃ wo : World, wo = wr := ⟨_, rfl⟩
    by_cases hlt : a < l.length
    · obtain ⟨b, o, rfl, hb, g0, g1, g2⟩ := hI1.rd.tri hlt
      have a1 : (a : Int) < (l.length : Int) := by omega
      have q2 := (hI1.x2.alloc (.cells #[.int .i64 l[a].a, .int .i64 l[a].b, .string l[a].s] 46)).cell 0 _ rfl
      have hI2 : ItAt (w1.alloc (.cells #[.int .i64 l[a].a, .int .i64 l[a].b, .string l[a].s] 46)) H g K (some ⟨b, o, none⟩) l c b1 b2 := hI1.on (by (repeat' first | exact Below.refl _ _ | apply Below.drew | (refine Below.setCells ?_ _ _ ?_) | (refine Below.setCell ?_ ?_ _) | (refine Below.alloc ?_ ?_ _) | (simp; done) | (simp; omega)))
      have kX := Blk.new w1 46 #[.int .i64 l[a].a, .int .i64 l[a].b, .string l[a].s]
      have hJ2 := HJ.out _ _ (w1.alloc (.cells #[.int .i64 l[a].a, .int .i64 l[a].b, .string l[a].s] 46)) hJ1 (by (repeat' first | exact Below.refl _ _ | apply Below.drew | (refine Below.setCells ?_ _ _ ?_) | (refine Below.setCell ?_ ?_ _) | (refine Below.alloc ?_ ?_ _) | (simp; done) | (simp; omega)))
      gi_wp2
      have hxa : Hid (xAt l a = l[a]) := Lib.hid (xAt_of hlt)
      have hsz := HS.out a hlt
      have hb' := hb
      gi_loopw [21] (fun i wr => ∃ (j : Nat) (pre : List (FtA l)), j ≤ 6 ∧ i = .int .i64 j ∧ ItAt wr H g K (some ⟨b, o, none⟩) l c b1 b2 ∧ Blk wr w1.heap.size 46 #[.int .i64 l[a].a, .int .i64 l[a].b, .string l[a].s] ∧ pre.map (·.1) = pre2 l a j ∧ J pre wr) (fun i wr => 6 - (intOf i).toNat)
      case atStart => exact ⟨0, pre, by omega, rfl, hI2, kX, by rw [pre2_zero]; exact hp1, hJ2⟩
      case round =>
        clear hp1 hJ1 hI1 hI2 kX hJ2 q2 g0 g1 g2
        clear pre
        obtain ⟨j, pre, hj, rfl, hI1, kX, hp1, hJ1⟩ := hrel
        obtain ⟨w2, rfl⟩ : ∃ wo : World, wo = wr := ⟨_, rfl⟩
        by_cases hj6 : j < 6
        · have a2 : (j : Int) < 6 := by omega
          obtain ⟨A', c', hv, hwr, hwn⟩ := hI1.ks.withs (k := (j : Int) + 1)
          obtain ⟨nw, hnw⟩ : ∃ n : Nat, Hid ((withsL ((j : Int) + 1)).length = n) := ⟨_, Lib.hid rfl⟩
          rw [hnw.out] at hv hwn
          obtain ⟨kn, hkn⟩ : ∃ x, Hid (kname ((j : Int) + 1) = x) := ⟨_, Lib.hid rfl⟩
          obtain ⟨kl, hkl⟩ : ∃ x, Hid (klet ((j : Int) + 1) = x) := ⟨_, Lib.hid rfl⟩
          obtain ⟨i1, hi1⟩ : ∃ x, Hid (klf ((j : Int) + 1) = x) := ⟨_, Lib.hid rfl⟩
          obtain ⟨i2, hi2⟩ : ∃ x, Hid (kpf ((j : Int) + 1) = x) := ⟨_, Lib.hid rfl⟩
          have hkc : Hid (kcells K ((j : Int) + 1) = [.int .i64 ((j : Int) + 1), .string kn, .bool kl, .slice A' nw c', .func (.func i1) #[] #[], .func (.func i2) #[] #[]]) := by
            unfold kcells; rw [hkn.out, hkl.out, hv, hi1.out, hi2.out]; exact Lib.hid rfl
          have HV := Lib.hid hv
          clear hv
          have kc : ∀ q u, (kcells K ((j : Int) + 1))[q]? = some u → w2.cell? ⟨g, j * 6 + q, none⟩ = some u := fun q u hu => by
            have hq : q < 6 := by have := (List.getElem?_eq_some_iff.1 hu).1; simpa [kcells] using this
            refine hI1.ks.blk.cell _ _ ?_
            clear hkc
            rcases (show j = 0 ∨ j = 1 ∨ j = 2 ∨ j = 3 ∨ j = 4 ∨ j = 5 by omega) with rfl | rfl | rfl | rfl | rfl | rfl <;>
              rcases (show q = 0 ∨ q = 1 ∨ q = 2 ∨ q = 3 ∨ q = 4 ∨ q = 5 by omega) with rfl | rfl | rfl | rfl | rfl | rfl <;> exact hu
          have d0 := kc 0 _ (by rw [hkc.out]; rfl)
          have d1 := kc 1 _ (by rw [hkc.out]; rfl)
          have d2 := kc 2 _ (by rw [hkc.out]; rfl)
          have d3 := kc 3 _ (by rw [hkc.out]; rfl)
          have d4 := kc 4 _ (by rw [hkc.out]; rfl)
          have d5 := kc 5 _ (by rw [hkc.out]; rfl)
          simp only [Nat.add_zero] at d0
          clear kc
          have hent := klf_enter ((j : Int) + 1)
          rw [hi1.out] at hent
          obtain ⟨nl, hnl⟩ : ∃ n : Nat, Hid (letsF ((j : Int) + 1) (xAt l a) = n) := ⟨(letsF ((j : Int) + 1) (xAt l a)).toNat, Lib.hid (by have := lets_nn ((j : Int) + 1) (xAt l a); omega)⟩
          have hnlb : nl ≤ 2000 := by
            have h1 := lets_le ((j : Int) + 1) (xAt l a)
            rw [hnl.out, hxa.out, Int.toNat_natCast] at h1
            omega
          have HLT := Lib.hid (fun (w' : World) => (by have := lets_any ((j : Int) + 1) l[a] w' (by omega); rw [hi1.out, ← hxa.out, hnl.out, hxa.out] at this; exact this : Calls Try.prog i1 #[.agg #[.int .i64 l[a].a, .int .i64 l[a].b, .string l[a].s]] w' (Ret (.int .i64 nl) w')))
          have hI2 : ItAt (w2.alloc (.cells #[.int .i64 ((j : Int) + 1), .string kn, .bool kl, .slice A' nw c', .func (.func i1) #[] #[], .func (.func i2) #[] #[]] 92)) H g K (some ⟨b, o, none⟩) l c b1 b2 := hI1.on (by (repeat' first | exact Below.refl _ _ | apply Below.drew | (refine Below.setCells ?_ _ _ ?_) | (refine Below.setCell ?_ ?_ _) | (refine Below.alloc ?_ ?_ _) | (simp; done) | (simp; omega)))
          have kX2 := kX.alloc (.cells #[.int .i64 ((j : Int) + 1), .string kn, .bool kl, .slice A' nw c', .func (.func i1) #[] #[], .func (.func i2) #[] #[]] 92)
          have e0 := kX2.cell 0 _ rfl
          have e1 := kX2.cell 1 _ rfl
          have e2 := kX2.cell 2 _ rfl
          have kK := Blk.new w2 92 #[.int .i64 ((j : Int) + 1), .string kn, .bool kl, .slice A' nw c', .func (.func i1) #[] #[], .func (.func i2) #[] #[]]
          have hJ2 := HJ.out _ _ (w2.alloc (.cells #[.int .i64 ((j : Int) + 1), .string kn, .bool kl, .slice A' nw c', .func (.func i1) #[] #[], .func (.func i2) #[] #[]] 92)) hJ1 (by (repeat' first | exact Below.refl _ _ | apply Below.drew | (refine Below.setCells ?_ _ _ ?_) | (refine Below.setCell ?_ ?_ _) | (refine Below.alloc ?_ ?_ _) | (simp; done) | (simp; omega)))
          gi_wp2_with (first
            | (refine ⟨trivial, fun h => (by cases h), ?_⟩
               with_reducible refine (callsIn_wide.2 (HLT.out _)).mono ?_
               rintro e w3 ⟨rfl, hB3⟩
               have hI3 := hI2.on hB3
               have kX3 := kX2.below' hB3
               have kK3 := kK.below' hB3
               have hJ3 := HJ.out _ _ _ hJ2 hB3)
            | fail)
          clear hI1 kX hJ1 hI2 kX2 e0 e1 e2 kK hJ2 hB3 d0 d1 d2 d3 d4 d5 hent HLT hkc
          gi_loopw [29] (fun i wr => ∃ (n' : Nat) (pre : List (FtA l)), n' ≤ nl ∧ i = .int .i64 n' ∧ ItAt wr H g K (some ⟨b, o, none⟩) l c b1 b2 ∧ Blk wr w1.heap.size 46 #[.int .i64 l[a].a, .int .i64 l[a].b, .string l[a].s] ∧
            Blk wr w2.heap.size 92 #[.int .i64 ((j : Int) + 1), .string kn, .bool kl, .slice A' nw c', .func (.func i1) #[] #[], .func (.func i2) #[] #[]] ∧ pre.map (·.1) = pre3 l a j n' ∧ J pre wr) (fun i wr => nl - (intOf i).toNat)
          case atStart => exact ⟨0, pre, by omega, rfl, hI3, kX3, kK3, by rw [pre3_zero]; exact hp1, hJ3⟩
          case round =>
            clear hI3 kX3 kK3 hJ3 hp1
            clear pre
            obtain ⟨m3, pre, hm3, rfl, hI1, kX, kK, hp1, hJ1⟩ := hrel
            obtain ⟨w4, rfl⟩ : ∃ wo : World, wo = wr := ⟨_, rfl⟩
            have f3 := kK.cell 3 _ rfl
            by_cases hl3 : m3 < nl
            · have a3 : (m3 : Int) < (nl : Int) := by omega
              gi_wp2
              gi_loopw [35] (fun i wr => ∃ (m' : Nat) (pre : List (FtA l)), m' ≤ nw ∧ i = .int .i64 m' ∧ ItAt wr H g K (some ⟨b, o, none⟩) l c b1 b2 ∧ Blk wr w1.heap.size 46 #[.int .i64 l[a].a, .int .i64 l[a].b, .string l[a].s] ∧
                Blk wr w2.heap.size 92 #[.int .i64 ((j : Int) + 1), .string kn, .bool kl, .slice A' nw c', .func (.func i1) #[] #[], .func (.func i2) #[] #[]] ∧ pre.map (·.1) = pre4 l a j m3 m' ∧ J pre wr) (fun i wr => nw - (intOf i).toNat)
              case atStart => exact ⟨0, pre, by omega, rfl, hI1, kX, kK, by rw [pre4_zero]; exact hp1, hJ1⟩
              case round =>
                clear hI1 kX kK hp1 hJ1 f3
                clear pre
                obtain ⟨m4, pre, hm4, rfl, hI1, kX, kK, hp1, hJ1⟩ := hrel
                obtain ⟨w5, rfl⟩ : ∃ wo : World, wo = wr := ⟨_, rfl⟩
                by_cases hl4 : m4 < nw
                · have a4 : (m4 : Int) < (nw : Int) := by omega
                  have hl4' : m4 < (withsL ((j : Int) + 1)).length := by rw [hnw.out]; exact hl4
                  obtain ⟨A5, c5, hv5, hwr5, -⟩ := hI1.ks.withs (k := (j : Int) + 1)
                  rw [HV.out, hnw.out] at hv5
                  simp only [Value.slice.injEq] at hv5
                  obtain ⟨rfl, -, rfl⟩ := hv5
                  obtain ⟨bw, ow, eA, hbw, hcw⟩ := Rd.int hwr5 hl4'
                  subst eA
                  have hsh := shaped_here (l := l) (i := a) (n := m3) hj6 (by rw [hnl.out]; omega) hl4'
                  have hnx := Lib.hid (pre4_next l a j m3 m4 hl4')
                  have hin := Lib.hid (pre4_all l (n := m3) (m := m4 + 1) hlt hj6 (by rw [hnl.out]; omega))
                  obtain ⟨wi, hwi⟩ : ∃ x, Hid ((withsL ((j : Int) + 1))[m4] = x) := ⟨_, Lib.hid rfl⟩
                  rw [hwi.out] at hsh hnx hcw
                  clear hwi
                  clear hwr5 hl4'
                  have hI6 : ItAt (w5.alloc (.cells #[.int .i64 ((j : Int) + 1), .int .i64 a, .int .i64 m3, .int .i64 wi] 24)) H g K (some ⟨b, o, none⟩) l c b1 b2 := hI1.on (by (repeat' first | exact Below.refl _ _ | apply Below.drew | (refine Below.setCells ?_ _ _ ?_) | (refine Below.setCell ?_ ?_ _) | (refine Below.alloc ?_ ?_ _) | (simp; done) | (simp; omega)))
                  have kX6 := kX.alloc (.cells #[.int .i64 ((j : Int) + 1), .int .i64 a, .int .i64 m3, .int .i64 wi] 24)
                  have kK6 := kK.alloc (.cells #[.int .i64 ((j : Int) + 1), .int .i64 a, .int .i64 m3, .int .i64 wi] 24)
                  have kF6 := Blk.new w5 24 #[.int .i64 ((j : Int) + 1), .int .i64 a, .int .i64 m3, .int .i64 wi]
                  have hJ6 := HJ.out _ _ (w5.alloc (.cells #[.int .i64 ((j : Int) + 1), .int .i64 a, .int .i64 m3, .int .i64 wi] 24)) hJ1 (by (repeat' first | exact Below.refl _ _ | apply Below.drew | (refine Below.setCells ?_ _ _ ?_) | (refine Below.setCell ?_ ?_ _) | (refine Below.alloc ?_ ?_ _) | (simp; done) | (simp; omega)))
                  have r0 := kK.cell 0 _ rfl
                  have r1 := hI6.x1.cell 0 _ rfl
                  have HF := Lib.hid (fits_any w2.heap.size (some ⟨b, o, none⟩) l c ⟨(j : Int) + 1, a, m3, wi⟩ _ H hI6.rd hI6.hs (kK6.cell 0 _ rfl) (by rw [hi1.out]; exact kK6.cell 4 _ rfl) hsh (by omega) HS.out)
                  simp only at HF
                  cases hfit : fitsF l ⟨(j : Int) + 1, a, m3, wi⟩
                  · have hnx := hnx.out
                    rw [hfit] at hnx HF
                    simp only [Bool.false_eq_true, if_false, List.append_nil] at hnx
                    have hnx := Lib.hid hnx
                    clear hfit hin
                    gi_wp2_with (first
                      | (refine ⟨trivial, fun h => (by cases h), ?_⟩
                         gi_at_call 51
                         refine (callsIn_wide.2 HF.out).mono ?_
                         rintro e w7 ⟨rfl, hB7⟩
                         have hI7 := hI6.on hB7
                         have kX7 := kX6.below' hB7
                         have kK7 := kK6.below' hB7
                         have kF7 := kF6.below' hB7
                         have r7 := kF7.cell 0 _ rfl
                         have hJ7 := HJ.out _ _ _ hJ6 hB7)
                      | fail)
                    refine ⟨fun _ h => (by cases h), ?_⟩
                    gi_wp2
                    go_roundw
                    case rel => exact ⟨m4 + 1, pre, by omega, by go_num, hI7, kX7, kK7, by rw [hnx.out]; exact hp1, hJ7⟩
                    case measure => simp [intOf]; omega
                  · have hnx := hnx.out
                    rw [hfit, if_pos rfl] at hnx
                    rw [hfit] at HF
                    have hnx := Lib.hid hnx
                    have hne : pre.length < (fitA l).length := by
                      have h1 := (hin.out).length_le
                      rw [hnx.out, ← hp1] at h1
                      simp at h1
                      omega
                    have HN := Lib.hid hne
                    have HY6 := Lib.hid (fun (w7 : World) => HY.out pre ⟨⟨(j : Int) + 1, a, m3, wi⟩, hsh, hfit⟩ w7)
                    clear hne
                    gi_wp2_with (first
                      | (refine ⟨trivial, fun h => (by cases h), ?_⟩
                         gi_at_call 51
                         refine (callsIn_wide.2 HF.out).mono ?_
                         rintro e w7 ⟨rfl, hB7⟩
                         have hI7 := hI6.on hB7
                         have kX7 := kX6.below' hB7
                         have kK7 := kK6.below' hB7
                         have kF7 := kF6.below' hB7
                         have r70 := kF7.cell 0 _ rfl
                         have r71 := kF7.cell 1 _ rfl
                         have r72 := kF7.cell 2 _ rfl
                         have r73 := kF7.cell 3 _ rfl
                         have hJ7 := HJ.out _ _ _ hJ6 hB7
                         obtain ⟨fn, tmps, assign, body, hy, hR⟩ := HY6.out w7 hJ7 HN.out
                         dsimp only at hy)
                      | fail)
                    refine ⟨fun h => (by cases h), ?_⟩
                    refine hR.mono ?_
                    rintro e w8 (⟨rfl, hJ8, hk8⟩ | ⟨rfl, hJx8⟩)
                    · gi_wp2
                      go_roundw
                      case rel => exact ⟨m4 + 1, pre ++ [⟨⟨(j : Int) + 1, a, m3, wi⟩, hsh, hfit⟩], by omega, by go_num, hI7.kp hk8, hk8.2 _ _ _ (by decide) (by decide) kX7, hk8.2 _ _ _ (by decide) (by decide) kK7, by rw [hnx.out, List.map_append, hp1]; rfl, hJ8⟩
                      case measure => simp [intOf]; omega
                    · gi_wp2
                      refine bodyPost_ret (results_none rfl _ _ _) rfl ?_
                      exact ⟨⟨_, rfl⟩, .inr ⟨pre ++ [⟨⟨(j : Int) + 1, a, m3, wi⟩, hsh, hfit⟩], by have h1 := hin.out; rw [hnx.out] at h1; rw [List.map_append, hp1]; exact h1, hJx8⟩⟩
                · have em : m4 = nw := by omega
                  subst em
                  have hq := Lib.hid (pre3_next l a j m3)
                  rw [hnw.out] at hq
                  gi_wp2
                  go_roundw
                  case rel => exact ⟨m3 + 1, pre, by omega, by go_num, hI1, kX, kK, by rw [hq.out]; exact hp1, hJ1⟩
                  case measure => simp [intOf]; omega
            · have em : m3 = nl := by omega
              subst em
              have hq := Lib.hid (pre2_next l a j hj6)
              rw [hnl.out, Int.toNat_natCast] at hq
              gi_wp2
              go_roundw
              case rel => exact ⟨j + 1, pre, by omega, by go_num, hI1, kX, by rw [hq.out]; exact hp1, hJ1⟩
              case measure => simp [intOf]; omega
        · have em : j = 6 := by omega
          subst em
          gi_wp2
          go_roundw
          case rel => exact ⟨a + 1, pre, by omega, by go_num, hI1, by rw [pre1_next]; exact hp1, hJ1⟩
          case measure => simp [intOf]; omega
    · have em : a = l.length := by omega
      subst em
      gi_wp2
      go_end0
      exact ⟨⟨_, rfl⟩, .inl ⟨pre, hp1, hJ1⟩⟩
end Go.Proofs.Ytblifdchofihoaa
