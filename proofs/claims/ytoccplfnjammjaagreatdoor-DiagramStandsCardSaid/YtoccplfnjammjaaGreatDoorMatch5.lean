/- torchonref05: match, Same, of whatever sheets. -/
import Derived.Test.YtoccplfnjammjaaGreatDoorTrA
import Derived.BigQuiet
import Derived.BigRegion
set_option linter.unusedSimpArgs false
set_option linter.unusedVariables false
namespace Go.Proofs.YtoccplfnjammjaaGreatDoor
open Go Go.RowKit Tor

/-- how far the matching has come -/
structure MatI (l m : List Tri) (k : Nat) (M : List Nat) : Prop where
  go : mgo l m [] = mgo l (m.drop k) M
  len : M.length = k
  lt : ∀ i ∈ M, i < l.length
  nd : M.Nodup
theorem MatI.start (l m : List Tri) : MatI l m 0 [] := ⟨by rw [List.drop_zero], rfl, by simp, by simp⟩
theorem MatI.next {l m : List Tri} {k q : Nat} {M : List Nat} (h : MatI l m k M) (hk : k < m.length) (hq : mfind l M m[k] = some q) : MatI l m (k + 1) (M ++ [q]) := by
  obtain ⟨hi, he, hr⟩ := mfind_some hq
  refine ⟨?_, by simp [h.len], ?_, ?_⟩
  · rw [h.go, List.drop_eq_getElem_cons hk, mgo, hq]
  · intro i hi2
    simp only [List.mem_append, List.mem_singleton] at hi2
    rcases hi2 with hi2 | rfl
    · exact h.lt i hi2
    · exact hi
  · rw [List.nodup_append]
    refine ⟨h.nd, by simp, ?_⟩
    intro a ha b hb
    simp only [List.mem_singleton] at hb
    subst hb
    rintro rfl
    exact rdyB_new hr ha
theorem MatI.none {l m : List Tri} {k : Nat} {M : List Nat} (h : MatI l m k M) (hk : k < m.length) (hq : mfind l M m[k] = Option.none) : mgo l m [] = Option.none := by
  rw [h.go, List.drop_eq_getElem_cons hk, mgo, hq]
theorem MatI.all {l m : List Tri} {k : Nat} {M : List Nat} (h : MatI l m k M) (hk : ¬ k < m.length) : mgo l m [] = some M := by
  rw [h.go, List.drop_eq_nil_of_le (by omega), mgo]
theorem trace_go {l m : List Tri} {p : Int} (hl : l.length = m.length) : traceB p l p m = (mgo l m []).isSome := by unfold traceB; simp [hl]
theorem trace_ne {l m : List Tri} {p q : Int} (h : p ≠ q ∨ l.length ≠ m.length) : traceB p l q m = false := by
  unfold traceB
  rcases h with h | h <;> simp [h]

set_option maxRecDepth 100000 in
set_option maxHeartbeats 8000000 in
theorem match05_eq (p : Int) (A : Option Addr) (l : List Tri) (c : Nat) (B : Option Addr) (m : List Tri) (c2 : Nat) (w : World) (H : Nat) (hr : RdT w H A l) (hr2 : RdT w H B m) (hH : H ≤ w.heap.size)
    (hb : ∀ (k : Nat) (hk : k < l.length), 0 ≤ l[k].b ∧ l[k].b ≤ 100) (hb2 : ∀ (k : Nat) (hk : k < m.length), 0 ≤ m[k].b ∧ m[k].b ≤ 100) (hl : l.length ≤ 1000) (hlm : l.length = m.length) :
    Calls Tryz.prog 55 #[.agg #[.int .i64 p, .slice A l.length c], .agg #[.int .i64 p, .slice B l.length c2]] w fun e w' => ∃ v, e = .returned (.tuple #[v, .bool (mgo l m []).isSome]) ∧ Below w.heap.size w w' := by
  obtain ⟨i0, hi0, hz0', hz1', hz2'⟩ := info_parts infoBool
  obtain ⟨j0, hj0, hy0, hy1, hy2⟩ := info_parts infoInt
  have HB := Lib.hid hb
  have HO := Lib.hid hlm.symm
  have HB2 := Lib.hid hb2
  obtain ⟨TR, hTR⟩ : ∃ TR, Hid ((mgo l m []).isSome = TR) := ⟨_, Lib.hid rfl⟩
  rw [hTR.out]
  clear hb hb2 hlm
  have e1 : ((l.length : Int) != (l.length : Int)) = false := by simp
  have e2 : (p != p) = false := by simp
  go_enter Tryz.func55, Tryz.ntmps55
  obtain ⟨W1, hW1⟩ : ∃ W1, Hid (W1 = (w.alloc (.cells #[.int .i64 p, .slice A l.length c] 25)).alloc (.cells #[.int .i64 p, .slice B l.length c2] 25)) := ⟨_, Lib.hid rfl⟩
  have hBW : Below w.heap.size w W1 := by rw [hW1.out]; (repeat' first | exact Below.refl _ _ | apply Below.drew | (refine Below.setCells ?_ _ _ ?_) | (refine Below.setCell ?_ ?_ _) | (refine Below.alloc ?_ ?_ _) | (simp; done) | (simp; omega))
  have hWs : W1.heap.size = w.heap.size + 1 + 1 := by rw [hW1.out]; simp
  have kA : Blk W1 w.heap.size 25 #[.int .i64 p, .slice A l.length c] := by rw [hW1.out]; exact (Blk.new w _ _).alloc _
  have kB : Blk W1 (w.heap.size + 1) 25 #[.int .i64 p, .slice B l.length c2] := by
    rw [hW1.out]
    have := Blk.new (w.alloc (.cells #[.int .i64 p, .slice A l.length c] 25)) 25 #[.int .i64 p, .slice B l.length c2]
    simpa using this
  go_wp2_with (first
    | (at_make; refine wpList_make_full _ rfl _ _ _ rfl (w.heap.size + 1 + 1) _ i0 _ 1 Tryz.underlying52 hi0 hz0' hz1' .i64 .i64 _ _ l.length rfl rfl rfl rfl (by rw [hz2']; omega) (by unfold maxLen; omega) (by simp) ?_; intro w2 hown0 hg0
       rw [← hW1.out] at hg0
       have hown0' : w2.ownsRow (w.heap.size + 1 + 1) 4 1 (.slice (some ⟨w.heap.size + 1 + 1, 0, none⟩) l.length l.length) l.length (madeCells (Value.bool false).cells (l.length * 1)).toList := by simpa using hown0
       have hD0 := doneRow_start hown0'
       have hB2 : Below W1.heap.size W1 w2 := ⟨hg0.os, hg0.tape, hg0.output, hg0.size, fun k hk => hg0.block k hk (by simp)⟩
       have kA2 := kA.below' hB2
       have kB2 := kB.below' hB2
       have c2' := kA2.cell 1 (.slice A l.length c) rfl
       have c3' := kB2.cell 1 (.slice B l.length c2) rfl
       have n2 := kA2.lt
       have n3 := kB2.lt
       clear hown0 hg0 hown0')
    | fail)
  have hGe : w.heap.size + 1 < w.heap.size + 1 + 1 := by omega
  generalize w.heap.size + 1 + 1 = G at hWs hD0 hGe ⊢
  go_loopw [7, 8] (fun v k wr => ∃ (j : Nat) (fv0 : Value) (M : List Nat), v = fv0 ∧ j ≤ l.length ∧ k = .int .i64 j ∧ Hid (MatI l m j M) ∧ DoneRow wr (G) (G) l.length l.length M ∧ Own 1 ienc wr (G) 3 v (natI M) ∧ Below W1.heap.size W1 wr) (fun _ k _ => l.length - (intOf k).toNat)
  case atStart => exact ⟨0, _, [], rfl, Nat.zero_le _, rfl, Lib.hid (MatI.start l m), hD0, Own.nil _ _ _, hB2⟩
  case round =>
    obtain ⟨j, fv0, M, rfl, hj, rfl, hMI, hD, hown, hB⟩ := hrel
    clear hD0 hB2 kA2 kB2 c2' c3'
    have kA2 := kA.below' hB
    have kB2 := kB.below' hB
    have a1 := kA2.cell 1 (.slice A l.length c) rfl
    have b1 := kB2.cell 1 (.slice B l.length c2) rfl
    have an := kA2.lt
    have bn := kB2.lt
    have hBr : Below w.heap.size w wr := hBW.trans (hB.mono (by omega))
    have hz := hBr.size
    by_cases hlt : j < l.length
    · have hjm : j < m.length := by rw [HO.out]; exact hlt
      have hml : M.length ≤ 1000 := by rw [hMI.out.len]; omega
      obtain ⟨y, hy⟩ : ∃ y, Hid (m[j] = y) := ⟨_, Lib.hid rfl⟩
      have hyb := HB2.out j hjm
      rw [hy.out] at hyb
      cases hfd : mfind l M y
      · have hv : TR = false := by rw [← hTR.out, hMI.out.none hjm (by rw [hy.out]; exact hfd)]; rfl
        subst hv
        have hnr := Lib.hid (mfind_none hyb.1 hfd)
        have hrr := hr.below' hBr hH
        have hrr2 := hr2.below' hBr hH
        obtain ⟨b', o', rfl, hb0', g0, g1, g2⟩ := hrr2.tri hjm
        obtain ⟨b, o, rfl, hb0, h0, h1, h2⟩ := hrr.tri hlt
        rw [hy.out] at g0 g1 g2
        have lb' := lt_of_cell g0
        have lb := lt_of_cell h0
        have k0 : (0 : Int) ≤ (j : Int) := by omega
        have k1 : (j : Int) < (l.length : Int) := by omega
        clear h0 h1 h2 hrr2 hfd hyb
        go_wp2_with fail
        obtain ⟨wo, rfl⟩ : ∃ wo : World, wo = wr := ⟨_, rfl⟩
        go_loopw [9, 10] (fun fv kv wr => ∃ (i : Nat), i ≤ l.length ∧ kv = .int .i64 i ∧ fv = .int .i64 (-1) ∧ Below wo.heap.size wo wr) (fun _ kv _ => l.length - (intOf kv).toNat)
        case atStart => exact ⟨0, Nat.zero_le _, rfl, rfl, Below.refl _ _⟩
        case round =>
          obtain ⟨i, hil0, rfl, rfl, hBi⟩ := hrel
          have kA3 := kA2.below' hBi
          have kB3 := kB2.below' hBi
          have x0 := kA3.cell 0 _ rfl
          have x1 := kA3.cell 1 (.slice (some ⟨b, o, none⟩) l.length c) rfl
          have y1 := kB3.cell 1 (.slice (some ⟨b', o', none⟩) l.length c2) rfl
          have xn := kA3.lt
          have yn := kB3.lt
          have hBi' := hBr.trans (hBi.mono (by omega))
          have hzi := hBi'.size
          have hDi := hD.below hBi
          by_cases hil : i < l.length
          · obtain ⟨_, h0, h1, h2⟩ := (hr.below' hBi' hH).triAt hil
            have e0 := (hBi.cell (p := ⟨b', _, none⟩) lb').trans g0
            have e1 := (hBi.cell (p := ⟨b', _, none⟩) lb').trans g1
            have e2 := (hBi.cell (p := ⟨b', _, none⟩) lb').trans g2
            have lb2 := lt_of_cell h0
            have lb3 := lt_of_cell e0
            have i0' : (0 : Int) ≤ (i : Int) := by omega
            have i1' : (i : Int) < (l.length : Int) := by omega
            have hHi : H ≤ wr.heap.size := by omega
            by_cases he : l[i] = y
            · have he' : decide (l[i] = y) = true := decide_eq_true he
              have HR := Lib.hid (hnr.out i hil he)
              clear he
              go_wp2_with fail
              refine wp_region_ex (by kernel_rfl) (by kernel_rfl) ?_
              repeat (go_big_quiet_step (first
                | (go_at_call 85; refine (ready05_ex p _ l c _ M _ i _ _ wr.heap.size ((hr.below' hBi' hH).more hHi) hDi.rd (Nat.le_refl _) HB.out hl hil).mono ?_; rintro e w' ⟨rfl, hg⟩; rw [HR.out]; exact ⟨rfl, hg⟩)
                | fail))
              refine wpQuiet_nil ?_
              intro _ hw'
              obtain ⟨g, hw''⟩ := hw'
              subst hw''
              have hqq := g.h
              go_wp2_with fail
              go_roundw
              case rel => exact ⟨i + 1, by omega, by go_num, rfl, hBi.trans (hqq.mono hBi.size)⟩
              case measure => simp [intOf]; omega
            · have he' : decide (l[i] = y) = false := decide_eq_false he
              go_wp2_with fail
              refine wp_region_ex (by kernel_rfl) (by kernel_rfl) ?_
              repeat (go_big_quiet_step (fail))
              refine wpQuiet_nil ?_
              intro _ hw'
              obtain ⟨g, hw''⟩ := hw'
              subst hw''
              have hqq := g.h
              go_wp2_with fail
              go_roundw
              case rel => exact ⟨i + 1, by omega, by go_num, rfl, hBi.trans (hqq.mono hBi.size)⟩
              case measure => simp [intOf]; omega
          · go_wp2_with fail
            go_ret2
            exact ⟨_, rfl, hBi'⟩
      have hstep := Lib.hid (hMI.out.next hjm (by rw [hy.out]; exact hfd))
      obtain ⟨hq1, heq, hq2⟩ := mfind_some hfd
      rename_i q
      have hmx : Hid (m[j] = l[q]) := by rw [Hid, hy.out, heq]
      have HQ2 := Lib.hid hq2
      clear hfd heq hyb
      have hrr := hr.below' hBr hH
      have hrr2 := hr2.below' hBr hH
      obtain ⟨b', o', rfl, hb0', g0, g1, g2⟩ := hrr2.tri hjm
      obtain ⟨b, o, rfl, hb0, h0, h1, h2⟩ := hrr.tri hlt
      rw [hmx.out] at g0 g1 g2
      have lb' := lt_of_cell g0
      have lb := lt_of_cell h0
      have k0 : (0 : Int) ≤ (j : Int) := by omega
      have k1 : (j : Int) < (l.length : Int) := by omega
      clear hq2 h0 h1 h2 hrr2
      go_wp2_with fail
      obtain ⟨wo, rfl⟩ : ∃ wo : World, wo = wr := ⟨_, rfl⟩
      go_loopw [9, 10] (fun fv kv wr => ∃ (i : Nat) (f : Int), kv = .int .i64 i ∧ fv = .int .i64 f ∧ ((f = -1 ∧ i ≤ q) ∨ (f = q ∧ i = q + 1)) ∧ Below wo.heap.size wo wr) (fun _ kv _ => l.length - (intOf kv).toNat)
      case atStart => exact ⟨0, -1, rfl, rfl, Or.inl ⟨rfl, Nat.zero_le _⟩, Below.refl _ _⟩
      case round =>
        obtain ⟨i, f, rfl, rfl, hfi, hBi⟩ := hrel
        have kA3 := kA2.below' hBi
        have kB3 := kB2.below' hBi
        have x0 := kA3.cell 0 _ rfl
        have x1 := kA3.cell 1 (.slice (some ⟨b, o, none⟩) l.length c) rfl
        have y1 := kB3.cell 1 (.slice (some ⟨b', o', none⟩) l.length c2) rfl
        have xn := kA3.lt
        have yn := kB3.lt
        have hBi' := hBr.trans (hBi.mono (by omega))
        have hzi := hBi'.size
        have hDi := hD.below hBi
        rcases hfi with ⟨rfl, hiq⟩ | ⟨rfl, rfl⟩
        · have hil : i < l.length := by omega
          obtain ⟨_, h0, h1, h2⟩ := (hr.below' hBi' hH).triAt hil
          have e0 := (hBi.cell (p := ⟨b', _, none⟩) lb').trans g0
          have e1 := (hBi.cell (p := ⟨b', _, none⟩) lb').trans g1
          have e2 := (hBi.cell (p := ⟨b', _, none⟩) lb').trans g2
          have lb2 := lt_of_cell h0
          have lb3 := lt_of_cell e0
          have i0' : (0 : Int) ≤ (i : Int) := by omega
          have i1' : (i : Int) < (l.length : Int) := by omega
          have hHi : H ≤ wr.heap.size := by omega
          by_cases he : l[i] = l[q]
          · have he' : decide (l[i] = l[q]) = true := decide_eq_true he
            cases hrb : rdyB l M i
            · have HR := Lib.hid hrb
              have hne : i ≠ q := fun e => by subst e; rw [HQ2.out] at hrb; cases hrb
              clear hrb he
              go_wp2_with fail
              refine wp_region_ex (by kernel_rfl) (by kernel_rfl) ?_
              repeat (go_big_quiet_step (first
                | (go_at_call 85; refine (ready05_ex p _ l c _ M _ i _ _ wr.heap.size ((hr.below' hBi' hH).more hHi) hDi.rd (Nat.le_refl _) HB.out hl hil).mono ?_; rintro e w' ⟨rfl, hg⟩; rw [HR.out]; exact ⟨rfl, hg⟩)
                | fail))
              refine wpQuiet_nil ?_
              intro _ hw'
              obtain ⟨g, hw''⟩ := hw'
              subst hw''
              have hqq := g.h
              go_wp2_with fail
              go_roundw
              case rel => exact ⟨i + 1, -1, by go_num, rfl, Or.inl ⟨rfl, by omega⟩, hBi.trans (hqq.mono hBi.size)⟩
              case measure => simp [intOf]; omega
            · have HR := Lib.hid hrb
              have hne : i = q := Classical.byContradiction fun e => by
                have := lin_first hq1 HQ2.out (show i < q by omega) he
                rw [this] at hrb; cases hrb
              have HNE := Lib.hid hne
              clear hrb he hne
              go_wp2_with fail
              refine wp_region_ex (by kernel_rfl) (by kernel_rfl) ?_
              repeat (go_big_quiet_step (first
                | (go_at_call 85; refine (ready05_ex p _ l c _ M _ i _ _ wr.heap.size ((hr.below' hBi' hH).more hHi) hDi.rd (Nat.le_refl _) HB.out hl hil).mono ?_; rintro e w' ⟨rfl, hg⟩; rw [HR.out]; exact ⟨rfl, hg⟩)
                | fail))
              refine wpQuiet_nil ?_
              intro _ hw'
              obtain ⟨g, hw''⟩ := hw'
              subst hw''
              have hqq := g.h
              go_wp2_with fail
              go_roundw
              case rel => exact ⟨i + 1, i, by go_num, rfl, Or.inr ⟨by rw [HNE.out], by rw [HNE.out]⟩, hBi.trans (hqq.mono hBi.size)⟩
              case measure => simp [intOf]; omega
          · have he' : decide (l[i] = l[q]) = false := decide_eq_false he
            go_wp2_with fail
            refine wp_region_ex (by kernel_rfl) (by kernel_rfl) ?_
            repeat (go_big_quiet_step (fail))
            refine wpQuiet_nil ?_
            intro _ hw'
            obtain ⟨g, hw''⟩ := hw'
            subst hw''
            have hqq := g.h
            have hne : i ≠ q := fun e => he (by subst e; rfl)
            go_wp2_with fail
            go_roundw
            case rel => exact ⟨i + 1, -1, by go_num, rfl, Or.inl ⟨rfl, by omega⟩, hBi.trans (hqq.mono hBi.size)⟩
            case measure => simp [intOf]; omega
        · have hqi : (q : Int) < (l.length : Int) := by omega
          have hq0 : (0 : Int) ≤ (q : Int) := by omega
          obtain ⟨hbg, hgl, hcur⟩ := hDi.heap
          have hcell := hDi.cell hq1
          have hfr := hDi.frozen q
          obtain ⟨hDs, hgs⟩ := hDi.store q
          have hownI := hown.below hBi
          have hneI := Own.ne_block hownI hcur.choose_spec (by decide)
          have hzB := hB.size
          have hBi2 : Below W1.heap.size W1 wr := hB.trans (hBi.mono hzB)
          have hown4 := Own.far' hownI (p := ⟨G, q, none⟩) hneI (.bool true)
          have hzi2 := hBi2.size
          have hcn : ((wr.setCell ⟨G, q, none⟩ (.bool true)).alloc (.cells #[.int .i64 (q : Int)] 3)).cell? ⟨wr.heap.size, 0, none⟩ = some (.int .i64 (q : Int)) := by
            have := World.cell?_alloc_new (wr.setCell ⟨G, q, none⟩ (.bool true)) #[.int .i64 (q : Int)] 3 0
            simpa using this
          have HCN := Lib.hid hcn
          clear hcn
          by_cases hql : ((q + 1 : Nat) : Int) < (l.length : Int)
          all_goals
            go_wp2_with (first
              | (at_builtin; refine wpList_append_i rfl (.tmp 70) (.tmp 72) _ rfl (G) _ j0 _ Tryz.underlying45 hj0 hy0 hy1 hy2 rfl _ (natI M) rfl (hown4.alloc _) wr.heap.size (q : Int) rfl HCN.out (by rw [natI_len]; omega) (by simp; omega) ?_; intro v8 w8 hown8 hg8)
              | fail)
            have hDq := (hDs.alloc (.cells #[.int .i64 q] 3)).other hg8 (Own.ne_block hown4 hDs.heap.2.2.choose_spec (by decide))
            have hBq : Below W1.heap.size W1 w8 := Own.grown ((Own.far' hownI (p := ⟨G, q, none⟩) hneI (.bool true)).alloc _ |> fun h => h.base (by omega)) ((hBi2.setCell (p := ⟨G, q, none⟩) (by simp; omega) (.bool true)).alloc (by simp; omega) (.cells #[.int .i64 q] 3)) hg8 (by simp; omega)
            go_roundw
            case rel => exact ⟨j + 1, _, M ++ [q], rfl, by omega, by go_num, hstep, hDq, by rw [natI_snoc]; exact hown8, hBq⟩
            case measure => simp [intOf]; omega
    · have hv : TR = true := by rw [← hTR.out, hMI.out.all (by rw [HO.out]; exact hlt)]; rfl
      subst hv
      go_wp2_with fail
      go_ret2
      exact ⟨_, rfl, hBr⟩

set_option maxRecDepth 100000 in
set_option maxHeartbeats 4000000 in
theorem match05_any (p q : Int) (A : Option Addr) (l : List Tri) (c : Nat) (B : Option Addr) (m : List Tri) (c2 : Nat) (w : World) (H : Nat) (hr : RdT w H A l) (hr2 : RdT w H B m) (hH : H ≤ w.heap.size)
    (hb : ∀ (k : Nat) (hk : k < l.length), 0 ≤ l[k].b ∧ l[k].b ≤ 100) (hb2 : ∀ (k : Nat) (hk : k < m.length), 0 ≤ m[k].b ∧ m[k].b ≤ 100) (hl : l.length ≤ 1000) (hm : m.length ≤ 1000) :
    Calls Tryz.prog 55 #[.agg #[.int .i64 p, .slice A l.length c], .agg #[.int .i64 q, .slice B m.length c2]] w fun e w' => ∃ v, e = .returned (.tuple #[v, .bool (traceB p l q m)]) ∧ Below w.heap.size w w' := by
  by_cases h1 : p = q
  · subst h1
    by_cases h2 : l.length = m.length
    · rw [trace_go h2, ← h2]
      exact match05_eq p A l c B m c2 w H hr hr2 hH hb hb2 hl h2
    · rw [trace_ne (Or.inr h2)]
      have e1 : ((l.length : Int) != (m.length : Int)) = true := by simp; omega
      have e2 : (p != p) = false := by simp
      clear h2
      go_enter Tryz.func55, Tryz.ntmps55
      go_wp2_with fail
      go_ret2
      exact ⟨_, rfl, by (repeat' first | exact Below.refl _ _ | apply Below.drew | (refine Below.setCells ?_ _ _ ?_) | (refine Below.setCell ?_ ?_ _) | (refine Below.alloc ?_ ?_ _) | (simp; done) | (simp; omega))⟩
  · rw [trace_ne (Or.inl h1)]
    have e2 : (p != q) = true := by simpa using h1
    clear h1
    go_enter Tryz.func55, Tryz.ntmps55
    go_wp2_with fail
    go_ret2
    exact ⟨_, rfl, by (repeat' first | exact Below.refl _ _ | apply Below.drew | (refine Below.setCells ?_ _ _ ?_) | (refine Below.setCell ?_ ?_ _) | (refine Below.alloc ?_ ?_ _) | (simp; done) | (simp; omega))⟩

set_option maxRecDepth 100000 in
set_option maxHeartbeats 4000000 in
theorem rsame05_any (p q : Int) (A : Option Addr) (l : List Tri) (c : Nat) (B : Option Addr) (m : List Tri) (c2 : Nat) (w : World) (H : Nat) (hr : RdT w H A l) (hr2 : RdT w H B m) (hH : H ≤ w.heap.size)
    (hw : ∀ (k : Nat) (hk : k < l.length), l[k].s.size ≤ 9223372036854775807) (hw2 : ∀ (k : Nat) (hk : k < m.length), m[k].s.size ≤ 9223372036854775807) (hl : l.length ≤ 1000) (hm : m.length ≤ 1000)
    (e1 : sheetE p l = 0) (e2 : sheetE q m = 0) (hb : ∀ (k : Nat) (hk : k < l.length), 0 ≤ l[k].b ∧ l[k].b ≤ 100) (hb2 : ∀ (k : Nat) (hk : k < m.length), 0 ≤ m[k].b ∧ m[k].b ≤ 100) :
    Calls Tryz.prog 17 #[.agg #[.int .i64 p, .slice A l.length c], .agg #[.int .i64 q, .slice B m.length c2]] w (Ret (.tuple #[.bool (traceB p l q m), .int .i64 0]) w) := by
  have HBO : Hid (∀ w', Below w.heap.size w w' → Calls Tryz.prog 54 #[.agg #[.int .i64 p, .slice A l.length c], .agg #[.int .i64 q, .slice B m.length c2]] w' (Ret (.int .i64 0) w')) := fun w' hB =>
    both_any p q A l c B m c2 w' H (hr.below' hB hH) (hr2.below' hB hH) (Nat.le_trans hH hB.size) hw hw2 (by omega) (by omega) e1 e2
  have HMA : Hid (∀ w', Below w.heap.size w w' → Calls Tryz.prog 55 #[.agg #[.int .i64 p, .slice A l.length c], .agg #[.int .i64 q, .slice B m.length c2]] w' fun e w'' => ∃ v, e = .returned (.tuple #[v, .bool (traceB p l q m)]) ∧ Below w'.heap.size w' w'') := fun w' hB =>
    match05_any p q A l c B m c2 w' H (hr.below' hB hH) (hr2.below' hB hH) (Nat.le_trans hH hB.size) hb hb2 hl hm
  generalize traceB p l q m = T at *
  clear hr hr2 hb hb2 hw hw2 e1 e2
  obtain ⟨W1, hW1⟩ : ∃ W1, Hid (W1 = (w.alloc (.cells #[.int .i64 p, .slice A l.length c] 25)).alloc (.cells #[.int .i64 q, .slice B m.length c2] 25)) := ⟨_, Lib.hid rfl⟩
  have hBW : Below w.heap.size w W1 := by rw [hW1.out]; (repeat' first | exact Below.refl _ _ | apply Below.drew | (refine Below.setCells ?_ _ _ ?_) | (refine Below.setCell ?_ ?_ _) | (refine Below.alloc ?_ ?_ _) | (simp; done) | (simp; omega))
  have kA : Blk W1 w.heap.size 25 #[.int .i64 p, .slice A l.length c] := by rw [hW1.out]; exact (Blk.new w _ _).alloc _
  have kB : Blk W1 (w.heap.size + 1) 25 #[.int .i64 q, .slice B m.length c2] := by
    rw [hW1.out]
    have := Blk.new (w.alloc (.cells #[.int .i64 p, .slice A l.length c] 25)) 25 #[.int .i64 q, .slice B m.length c2]
    simpa using this
  have hz := hBW.size
  go_enter Tryz.func17, Tryz.ntmps17
  go_wp2_with (first
    | (go_at_call 54; rw [← hW1.out]; refine (HBO.out _ hBW).mono ?_; rintro e w1 ⟨rfl, hB1⟩
       have kA1 := kA.below' hB1
       have kB1 := kB.below' hB1
       have c0 := kA1.cell 0 _ rfl
       have c1 := kA1.cell 1 _ rfl
       have n1 := kA1.lt
       have d0 := kB1.cell 0 _ rfl
       have d1 := kB1.cell 1 _ rfl
       have n2 := kB1.lt
       have hB1' := hBW.trans (hB1.mono hz)
       have hz1 := hB1'.size)
    | (go_at_call 55; refine (HMA.out _ hB1').mono ?_; rintro e w2 ⟨v2, rfl, hB2⟩))
  go_ret2
  exact Ret.val rfl (hB1'.trans (hB2.mono hz1))

end Go.Proofs.YtoccplfnjammjaaGreatDoor
