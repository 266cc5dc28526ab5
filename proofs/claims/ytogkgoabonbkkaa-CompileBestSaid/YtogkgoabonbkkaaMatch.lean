/- torchonref05: ready, match. -/
import Derived.Test.YtogkgoabonbkkaaRQuick
import Derived.Test.YtogkgoabonbkkaaAwake
import Derived.Test.YtogkgoabonbkkaaOptB
set_option linter.unusedSimpArgs false
set_option linter.unusedVariables false
namespace Go.Proofs.Ytogkgoabonbkkaa
open Go Go.RowKit Tor

set_option maxRecDepth 100000 in
set_option maxHeartbeats 1000000 in
theorem ready05_any (p : Int) (A : Option Addr) (l : List Tri) (c : Nat) (Ad : Option Addr) (M : List Nat) (cd : Nat) (i : Nat) (w : World) (H : Nat) (hr : RdT w H A l) (hd : RdB w H Ad (doneL l.length M)) (hH : H ≤ w.heap.size)
    (hb : ∀ (k : Nat) (hk : k < l.length), 0 ≤ l[k].b ∧ l[k].b ≤ 100) (hl : l.length ≤ 1000) (hi : i < l.length) :
    Calls Try.prog 62 #[.agg #[.int .i64 p, .slice A l.length c], .slice Ad l.length cd, .int .i64 i] w (Ret (.bool (rdyB l M i)) w) := by
  have HH := Lib.hid hb
  have HD := Lib.hid hd
  have hDl := doneL_len l.length M
  have HDL := Lib.hid hDl
  clear hb hd hDl
  go_enter Try.func62, Try.ntmps62
  go_wp2_with fail
  go_loopw [7] (fun k wr => ∃ j : Nat, j ≤ i ∧ k = .int .i64 j ∧ Hid (∀ q, q < j → (M.contains q || !touchAt l i q) = true) ∧ Below (w.heap.size + 1) (w.alloc (.cells #[.int .i64 p, .slice A l.length c] 24)) wr) (fun k _ => i - (intOf k).toNat)
  case atStart => exact ⟨0, by omega, rfl, fun q hq => by omega, Below.refl _ _⟩
  case round =>
    obtain ⟨j, hj, rfl, hno, hB⟩ := hrel
    have hN1 := box_cell hB 1 (.slice A l.length c) rfl
    have hNs := box_lt hB
    have hBw := box_below hB
    have hrr := hr.below' hBw hH
    by_cases hlt : j < i
    · have hjl : j < l.length := by omega
      obtain ⟨b, o, hA, hb0, h0, h1, h2⟩ := hrr.tri hjl
      subst hA
      obtain ⟨_, g0, g1, g2⟩ := hrr.triAt hi
      have hbb := lt_of_cell h0
      obtain ⟨bd, od, hAd, hbd0, e0⟩ := (HD.out.below' hBw hH).bool (k := j) (by rw [HDL.out]; exact hjl)
      rw [doneL_get] at e0
      subst hAd
      have hbdl := lt_of_cell e0
      have x1 := HH.out j hjl
      have x2 := HH.out i hi
      have k0 : (0 : Int) ≤ (j : Int) := by omega
      have k1 : (j : Int) < (l.length : Int) := by omega
      have k2 : (0 : Int) ≤ (i : Int) := by omega
      have k3 : (i : Int) < (l.length : Int) := by omega
      have hTA : Hid (touchAt l i j = touchB l[j].b l[i].b) := by rw [Hid, touchAt, xAt_of hjl, xAt_of hi]
      cases hc : M.contains j
      · rw [hc] at e0
        have HC := Lib.hid hc
        clear hc
        cases ht : touchB l[j].b l[i].b
        · have HT := Lib.hid ht
          clear ht
          go_wp2_with fail
          refine wp_region_ex (by kernel_rfl) (by kernel_rfl) ?_
          repeat (go_big_quiet_step ((go_at_call 74; refine (touch_ex _ _ _ _ (by omega) (by omega) (by omega) (by omega)).mono ?_; rintro e w' ⟨rfl, hg⟩; rw [HT.out]; exact ⟨rfl, hg⟩)))
          refine wpQuiet_nil ?_
          intro _ hw'
          obtain ⟨g, hw''⟩ := hw'
          subst hw''
          have hq := g.h
          go_wp2_with fail
          go_roundw
          case rel =>
            refine ⟨j + 1, by omega, by go_num, fun q hq' => ?_, hB.trans (hq.mono (by omega))⟩
            by_cases e : q = j
            · subst e; rw [hTA.out, HT.out]; simp
            · exact hno.out q (by omega)
          case measure => simp [intOf]; omega
        · have HT := Lib.hid ht
          clear ht
          go_wp2_with fail
          refine wp_region_ex (by kernel_rfl) (by kernel_rfl) ?_
          repeat (go_big_quiet_step ((go_at_call 74; refine (touch_ex _ _ _ _ (by omega) (by omega) (by omega) (by omega)).mono ?_; rintro e w' ⟨rfl, hg⟩; rw [HT.out]; exact ⟨rfl, hg⟩)))
          refine wpQuiet_nil ?_
          intro _ hw'
          obtain ⟨g, hw''⟩ := hw'
          subst hw''
          have hq := g.h
          go_wp2_with fail
          go_ret
          refine Ret.bool ?_ (hBw.trans (hq.mono (by have := hBw.size; omega)))
          have : rdyB l M i = false := by
            unfold rdyB
            simp only [Bool.and_eq_false_iff, List.all_eq_false]
            exact Or.inl ⟨j, by simpa using hlt, by rw [HC.out, hTA.out, HT.out]; simp⟩
          rw [this]
      · rw [hc] at e0
        have HC := Lib.hid hc
        clear hc
        go_wp2_with fail
        go_quiet (fail)
        go_wp2_with fail
        go_roundw
        case rel =>
          refine ⟨j + 1, by omega, by go_num, fun q hq' => ?_, hB.drewN nq⟩
          by_cases e : q = j
          · subst e; rw [HC.out]; simp
          · exact hno.out q (by omega)
        case measure => simp [intOf]; omega
    · have e1 : j = i := by omega
      subst e1
      obtain ⟨bd, od, hAd, hbd0, e0⟩ := (HD.out.below' hBw hH).bool (k := j) (by rw [HDL.out]; exact hi)
      rw [doneL_get] at e0
      subst hAd
      have hbdl := lt_of_cell e0
      have k0 : (0 : Int) ≤ (j : Int) := by omega
      have k1 : (j : Int) < (l.length : Int) := by omega
      have hall : rdyB l M j = !M.contains j := by
        unfold rdyB
        rw [List.all_eq_true.2 (fun q hq => hno.out q (by simpa using hq))]
        simp
      have HALL := Lib.hid hall
      obtain ⟨bb, hbb⟩ : ∃ bb, Hid (M.contains j = bb) := ⟨_, Lib.hid rfl⟩
      rw [hbb.out] at e0
      clear hall
      go_wp2_with fail
      go_ret
      exact Ret.bool (by rw [HALL.out, hbb.out]) hBw



theorem ready05_ex (p : Int) (A : Option Addr) (l : List Tri) (c : Nat) (Ad : Option Addr) (M : List Nat) (cd : Nat) (i : Nat) (w : World) (g : Ex w) (H : Nat) (hr : RdT w H A l) (hd : RdB w H Ad (doneL l.length M)) (hH : H ≤ w.heap.size)
    (hb : ∀ (k : Nat) (hk : k < l.length), 0 ≤ l[k].b ∧ l[k].b ≤ 100) (hl : l.length ≤ 1000) (hi : i < l.length) :
    Calls Try.prog 62 #[.agg #[.int .i64 p, .slice A l.length c], .slice Ad l.length cd, .int .i64 i] g.w (fun e w'' => e = .returned (.bool (rdyB l M i)) ∧ ∃ g' : Ex w, w'' = g'.w) :=
  calls_ex (ready05_any p A l c Ad M cd i g.w H (hr.below' g.h hH) (hd.below' g.h hH) (Nat.le_trans hH g.h.size) hb hl hi)

theorem lin_at {l : List Tri} : ∀ (O M : List Nat), LinExt l M O → ∀ (j : Nat) (hj : j < O.length), O[j] < l.length ∧ rdyB l (M ++ O.take j) O[j] = true
  | [], _, _, j, hj => by simp at hj
  | i :: r, M, h, 0, hj => by
    unfold LinExt at h
    simpa using ⟨h.1, h.2.1⟩
  | i :: r, M, h, j + 1, hj => by
    unfold LinExt at h
    have := lin_at r (M ++ [i]) h.2.2 j (by simpa using hj)
    simpa using this
/-- an equal work that comes earlier is not ready -/
theorem lin_first {l : List Tri} {M : List Nat} {i k : Nat} (hk : k < l.length) (hr : rdyB l M k = true) (hi : i < k) (he : l[i] = l[k]) : rdyB l M i = false := by
  have hk2 := (rdyB_iff hk).1 hr
  cases hri : rdyB l M i
  · rfl
  · have hi2 := (rdyB_iff (by omega)).1 hri
    exact absurd (by rw [he]; omega) (hk2.2.2 i hi hi2.2.1)
def natI (O : List Nat) : List Int := List.map (fun i : Nat => (i : Int)) O
theorem natI_snoc (O : List Nat) (i : Nat) : natI (O ++ [i]) = natI O ++ [(i : Int)] := by simp [natI]
theorem natI_len (O : List Nat) : (natI O).length = O.length := by simp [natI]

set_option maxRecDepth 100000 in
set_option maxHeartbeats 1000000 in
theorem match_any (p : Int) (A : Option Addr) (l : List Tri) (c : Nat) (B : Option Addr) (O : List Nat) (c2 : Nat) (w : World) (H : Nat) (hr : RdT w H A l) (hr2 : RdT w H B (O.map (xAt l))) (hH : H ≤ w.heap.size)
    (hb : ∀ (k : Nat) (hk : k < l.length), 0 ≤ l[k].b ∧ l[k].b ≤ 100) (hl : l.length ≤ 1000) (hlin : LinExt l [] O) (hO : O.length = l.length) :
    Calls Try.prog 60 #[.agg #[.int .i64 p, .slice A l.length c], .agg #[.int .i64 p, .slice B l.length c2]] w fun e w' => ∃ v, e = .returned (.tuple #[v, .bool true]) ∧ Below w.heap.size w w' := by
  obtain ⟨i0, hi0, hz0', hz1', hz2'⟩ := info_parts infoBool
  obtain ⟨j0, hj0, hy0, hy1, hy2⟩ := info_parts infoInt
  have HB := Lib.hid hb
  have HL := Lib.hid hlin
  have HO := Lib.hid hO
  clear hb hlin hO
  have e1 : ((l.length : Int) != (l.length : Int)) = false := by simp
  have e2 : (p != p) = false := by simp
  go_enter Try.func60, Try.ntmps60
  obtain ⟨W1, hW1⟩ : ∃ W1, Hid (W1 = (w.alloc (.cells #[.int .i64 p, .slice A l.length c] 24)).alloc (.cells #[.int .i64 p, .slice B l.length c2] 24)) := ⟨_, Lib.hid rfl⟩
  have hBW : Below w.heap.size w W1 := by rw [hW1.out]; (repeat' first | exact Below.refl _ _ | apply Below.drew | (refine Below.setCells ?_ _ _ ?_) | (refine Below.setCell ?_ ?_ _) | (refine Below.alloc ?_ ?_ _) | (simp; done) | (simp; omega))
  have hWs : W1.heap.size = w.heap.size + 1 + 1 := by rw [hW1.out]; simp
  have kA : Blk W1 w.heap.size 24 #[.int .i64 p, .slice A l.length c] := by rw [hW1.out]; exact (Blk.new w _ _).alloc _
  have kB : Blk W1 (w.heap.size + 1) 24 #[.int .i64 p, .slice B l.length c2] := by
    rw [hW1.out]
    have := Blk.new (w.alloc (.cells #[.int .i64 p, .slice A l.length c] 24)) 24 #[.int .i64 p, .slice B l.length c2]
    simpa using this
  go_wp2_with (first
    | (at_make; refine wpList_make_full _ rfl _ _ _ rfl (w.heap.size + 1 + 1) _ i0 _ 1 Try.underlying66 hi0 hz0' hz1' .i64 .i64 _ _ l.length rfl rfl rfl rfl (by rw [hz2']; omega) (by unfold maxLen; omega) (by simp) ?_; intro w2 hown0 hg0
       rw [← hW1.out] at hg0
       have hown0' : w2.ownsRow (w.heap.size + 1 + 1) 4 1 (.slice (some ⟨w.heap.size + 1 + 1, 0, none⟩) l.length l.length) l.length (madeCells (Value.bool false).cells (l.length * 1)).toList := by simpa using hown0
       have hD0 := doneRow_start hown0'
       have hB2 : Below W1.heap.size W1 w2 := ⟨hg0.os, hg0.tape, hg0.output, hg0.size, fun k hk => hg0.block k hk (by simp)⟩
       have kA2 := kA.below' hB2
       have kB2 := kB.below' hB2
       have c2' := kA2.cell 1 (.slice A l.length c) rfl
       have c3' := kB2.cell 1 (.slice B l.length c2) rfl
       have n2 := kA2.lt
       have n3 := kB2.lt
       clear hown0 hg0 hown0')
    | fail)
  have hGe : w.heap.size + 1 < w.heap.size + 1 + 1 := by omega
  generalize w.heap.size + 1 + 1 = G at hWs hD0 hGe ⊢
  go_loopw [7, 8] (fun v k wr => ∃ (j : Nat) (fv0 : Value), v = fv0 ∧ j ≤ l.length ∧ k = .int .i64 j ∧ DoneRow wr (G) (G) l.length l.length (O.take j) ∧ Own 1 ienc wr (G) 3 v (natI (O.take j)) ∧ Below W1.heap.size W1 wr) (fun _ k _ => l.length - (intOf k).toNat)
  case atStart => exact ⟨0, _, rfl, Nat.zero_le _, rfl, by simpa using hD0, by rw [List.take_zero]; exact Own.nil _ _ _, hB2⟩
  case round =>
    obtain ⟨j, fv0, rfl, hj, rfl, hD, hown, hB⟩ := hrel
    clear hD0 hB2 kA2 kB2 c2' c3'
    have kA2 := kA.below' hB
    have kB2 := kB.below' hB
    have a1 := kA2.cell 1 (.slice A l.length c) rfl
    have b1 := kB2.cell 1 (.slice B l.length c2) rfl
    have an := kA2.lt
    have bn := kB2.lt
    have hBr : Below w.heap.size w wr := hBW.trans (hB.mono (by omega))
    have hz := hBr.size
    by_cases hlt : j < l.length
    · have hjO : j < O.length := by rw [HO.out]; exact hlt
      obtain ⟨hq1, hq2⟩ := lin_at O [] HL.out j hjO
      rw [List.nil_append] at hq2
      obtain ⟨q, hq⟩ : ∃ q, Hid (O[j] = q) := ⟨_, Lib.hid rfl⟩
      rw [hq.out] at hq1 hq2
      have hjm : j < (O.map (xAt l)).length := by rw [List.length_map]; exact hjO
      have hmx : Hid ((O.map (xAt l))[j] = l[q]) := by rw [Hid, List.getElem_map, hq.out, xAt_of hq1]
      have HQ2 := Lib.hid hq2
      have hrr := hr.below' hBr hH
      have hrr2 := hr2.below' hBr hH
      obtain ⟨b', o', rfl, hb0', g0, g1, g2⟩ := hrr2.tri hjm
      obtain ⟨b, o, rfl, hb0, h0, h1, h2⟩ := hrr.tri hlt
      rw [hmx.out] at g0 g1 g2
      have lb' := lt_of_cell g0
      have lb := lt_of_cell h0
      have k0 : (0 : Int) ≤ (j : Int) := by omega
      have k1 : (j : Int) < (l.length : Int) := by omega
      have hrow : O.take (j + 1) = O.take j ++ [q] := by rw [take_snoc O j hjO, hq.out]
      have HROW := Lib.hid hrow
      clear hq2 hrow h0 h1 h2 hrr2
      go_wp2_with fail
      obtain ⟨wo, rfl⟩ : ∃ wo : World, wo = wr := ⟨_, rfl⟩
      go_loopw [9, 10] (fun fv kv wr => ∃ (i : Nat) (f : Int), kv = .int .i64 i ∧ fv = .int .i64 f ∧ ((f = -1 ∧ i ≤ q) ∨ (f = q ∧ i = q + 1)) ∧ Below wo.heap.size wo wr) (fun _ kv _ => l.length - (intOf kv).toNat)
      case atStart => exact ⟨0, -1, rfl, rfl, Or.inl ⟨rfl, Nat.zero_le _⟩, Below.refl _ _⟩
      case round =>
        obtain ⟨i, f, rfl, rfl, hfi, hBi⟩ := hrel
        have kA3 := kA2.below' hBi
        have kB3 := kB2.below' hBi
        have x0 := kA3.cell 0 _ rfl
        have x1 := kA3.cell 1 (.slice (some ⟨b, o, none⟩) l.length c) rfl
        have y1 := kB3.cell 1 (.slice (some ⟨b', o', none⟩) l.length c2) rfl
        have xn := kA3.lt
        have yn := kB3.lt
        have hBi' := hBr.trans (hBi.mono (by omega))
        have hzi := hBi'.size
        have hDi := hD.below hBi
        rcases hfi with ⟨rfl, hiq⟩ | ⟨rfl, rfl⟩
        · have hil : i < l.length := by omega
          obtain ⟨_, h0, h1, h2⟩ := (hr.below' hBi' hH).triAt hil
          have e0 := (hBi.cell (p := ⟨b', _, none⟩) lb').trans g0
          have e1 := (hBi.cell (p := ⟨b', _, none⟩) lb').trans g1
          have e2 := (hBi.cell (p := ⟨b', _, none⟩) lb').trans g2
          have lb2 := lt_of_cell h0
          have lb3 := lt_of_cell e0
          have i0' : (0 : Int) ≤ (i : Int) := by omega
          have i1' : (i : Int) < (l.length : Int) := by omega
          have hHi : H ≤ wr.heap.size := by omega
          by_cases he : l[i] = l[q]
          · have he' : decide (l[i] = l[q]) = true := decide_eq_true he
            cases hrb : rdyB l (O.take j) i
            · have HR := Lib.hid hrb
              have hne : i ≠ q := fun e => by subst e; rw [HQ2.out] at hrb; cases hrb
              clear hrb he
              go_wp2_with fail
              refine wp_region_ex (by kernel_rfl) (by kernel_rfl) ?_
              repeat (go_big_quiet_step (first
                | (go_at_call 62; refine (ready05_ex p _ l c _ (O.take j) _ i _ _ wr.heap.size ((hr.below' hBi' hH).more hHi) hDi.rd (Nat.le_refl _) HB.out hl hil).mono ?_; rintro e w' ⟨rfl, hg⟩; rw [HR.out]; exact ⟨rfl, hg⟩)
                | fail))
              refine wpQuiet_nil ?_
              intro _ hw'
              obtain ⟨g, hw''⟩ := hw'
              subst hw''
              have hqq := g.h
              go_wp2_with fail
              go_roundw
              case rel => exact ⟨i + 1, -1, by go_num, rfl, Or.inl ⟨rfl, by omega⟩, hBi.trans (hqq.mono hBi.size)⟩
              case measure => simp [intOf]; omega
            · have HR := Lib.hid hrb
              have hne : i = q := Classical.byContradiction fun e => by
                have := lin_first hq1 HQ2.out (show i < q by omega) he
                rw [this] at hrb; cases hrb
              have HNE := Lib.hid hne
              clear hrb he hne
              go_wp2_with fail
              refine wp_region_ex (by kernel_rfl) (by kernel_rfl) ?_
              repeat (go_big_quiet_step (first
                | (go_at_call 62; refine (ready05_ex p _ l c _ (O.take j) _ i _ _ wr.heap.size ((hr.below' hBi' hH).more hHi) hDi.rd (Nat.le_refl _) HB.out hl hil).mono ?_; rintro e w' ⟨rfl, hg⟩; rw [HR.out]; exact ⟨rfl, hg⟩)
                | fail))
              refine wpQuiet_nil ?_
              intro _ hw'
              obtain ⟨g, hw''⟩ := hw'
              subst hw''
              have hqq := g.h
              go_wp2_with fail
              go_roundw
              case rel => exact ⟨i + 1, i, by go_num, rfl, Or.inr ⟨by rw [HNE.out], by rw [HNE.out]⟩, hBi.trans (hqq.mono hBi.size)⟩
              case measure => simp [intOf]; omega
          · have he' : decide (l[i] = l[q]) = false := decide_eq_false he
            go_wp2_with fail
            refine wp_region_ex (by kernel_rfl) (by kernel_rfl) ?_
            repeat (go_big_quiet_step (fail))
            refine wpQuiet_nil ?_
            intro _ hw'
            obtain ⟨g, hw''⟩ := hw'
            subst hw''
            have hqq := g.h
            have hne : i ≠ q := fun e => he (by subst e; rfl)
            go_wp2_with fail
            go_roundw
            case rel => exact ⟨i + 1, -1, by go_num, rfl, Or.inl ⟨rfl, by omega⟩, hBi.trans (hqq.mono hBi.size)⟩
            case measure => simp [intOf]; omega
        · have hqi : (q : Int) < (l.length : Int) := by omega
          have hq0 : (0 : Int) ≤ (q : Int) := by omega
          obtain ⟨hbg, hgl, hcur⟩ := hDi.heap
          have hcell := hDi.cell hq1
          have hfr := hDi.frozen q
          obtain ⟨hDs, hgs⟩ := hDi.store q
          have hownI := hown.below hBi
          have hneI := Own.ne_block hownI hcur.choose_spec (by decide)
          have hzB := hB.size
          have hBi2 : Below W1.heap.size W1 wr := hB.trans (hBi.mono hzB)
          have hown4 := Own.far' hownI (p := ⟨G, q, none⟩) hneI (.bool true)
          have hzi2 := hBi2.size
          have hcn : ((wr.setCell ⟨G, q, none⟩ (.bool true)).alloc (.cells #[.int .i64 (q : Int)] 3)).cell? ⟨wr.heap.size, 0, none⟩ = some (.int .i64 (q : Int)) := by
            have := World.cell?_alloc_new (wr.setCell ⟨G, q, none⟩ (.bool true)) #[.int .i64 (q : Int)] 3 0
            simpa using this
          have HCN := Lib.hid hcn
          clear hcn
          by_cases hql : ((q + 1 : Nat) : Int) < (l.length : Int)
          all_goals
            go_wp2_with (first
              | (at_builtin; refine wpList_append_i rfl (.tmp 70) (.tmp 72) _ rfl (G) _ j0 _ Try.underlying43 hj0 hy0 hy1 hy2 rfl _ (natI (O.take j)) rfl (hown4.alloc _) wr.heap.size (q : Int) rfl HCN.out (by rw [natI_len, List.length_take]; omega) (by simp; omega) ?_; intro v8 w8 hown8 hg8)
              | fail)
            have hDq := (hDs.alloc (.cells #[.int .i64 q] 3)).other hg8 (Own.ne_block hown4 hDs.heap.2.2.choose_spec (by decide))
            have hBq : Below W1.heap.size W1 w8 := Own.grown ((Own.far' hownI (p := ⟨G, q, none⟩) hneI (.bool true)).alloc _ |> fun h => h.base (by omega)) ((hBi2.setCell (p := ⟨G, q, none⟩) (by simp; omega) (.bool true)).alloc (by simp; omega) (.cells #[.int .i64 q] 3)) hg8 (by simp; omega)
            go_roundw
            case rel => exact ⟨j + 1, _, rfl, by omega, by go_num, by rw [HROW.out]; exact hDq, by rw [HROW.out, natI_snoc]; exact hown8, hBq⟩
            case measure => simp [intOf]; omega
    · go_wp2_with fail
      go_ret2
      exact ⟨_, rfl, hBr⟩
end Go.Proofs.Ytogkgoabonbkkaa
