/- diagram.Rows, walked. -/
import Derived.Test.YtoccplfnjammjaaGreatDoorDRows
import Derived.Test.YtoccplfnjammjaaGreatDoorSortG
set_option linter.unusedSimpArgs false
set_option linter.unusedVariables false
namespace Go.Proofs.YtoccplfnjammjaaGreatDoor
open Go Go.RowKit Tor

/-- a new row of zeros -/
theorem zeros_blk {w : World} {base n g : Nat} (hn : 0 < n) (h : w.ownsRow base 3 1 (.slice (some ⟨g, 0, none⟩) n n) n (madeCells (Value.int .i64 0).cells (n * 1)).toList) :
    ∃ cs, Blk w g 3 cs ∧ cs.size = n ∧ ∀ q, q < n → cs[q]? = some (.int .i64 0) := by
  obtain ⟨h1, h2⟩ := h
  rcases h2 with ⟨h', _⟩ | ⟨g', cap, cur, h', hb, hh, hnc, hcm, hcs, ht⟩
  · simp at h'
  · simp only [Value.slice.injEq, Option.some.injEq, Addr.mk.injEq, and_true, true_and] at h'
    obtain ⟨rfl, rfl⟩ := h'
    refine ⟨cur, hh, by omega, fun q hq => ?_⟩
    have e : cur.toList[q]? = (madeCells (Value.int .i64 0).cells (n * 1)).toList[q]? := by
      rw [← ht, List.getElem?_take, if_pos (by omega)]
    rw [← Array.getElem?_toList, e, Array.getElem?_toList]
    unfold madeCells
    rw [Array.getElem?_map, Array.getElem?_range, if_pos (by omega)]
    simp [Value.cells, Nat.mod_one]
theorem dep_next {cs : Array Value} {l : List Tri} {L : List Nat} {m t p n : Nat} (hcs : cs.size = p) (hq : ∀ q, q < p → cs[q]? = some (.int .i64 (depAt l L m q))) (hm : L.length = m) (hb : (xAt l m).b = (t : Int)) (h0 : depAt l L m t ≤ n) (h1 : depAt l L m (t + 1) ≤ n) :
    ∀ q, q < p → ((cs.setIfInBounds t (.int .i64 ((n : Int) + 1))).setIfInBounds (t + 1) (.int .i64 ((n : Int) + 1)))[q]? = some (.int .i64 (depAt l (L ++ [n]) (m + 1) q)) := by
  intro q hqp
  rw [depAt_step l L m q n hm, hb]
  by_cases c1 : q = t + 1
  · subst c1
    rw [if_pos (.inr (by omega)), Nat.max_eq_right (by omega), Array.getElem?_setIfInBounds_self_of_lt (by simp; omega)]
    simp
  · by_cases c2 : q = t
    · subst c2
      rw [if_pos (.inl rfl), Nat.max_eq_right (by omega), Array.getElem?_setIfInBounds_ne (by omega), Array.getElem?_setIfInBounds_self_of_lt (by omega)]
      simp
    · rw [if_neg (by omega), Nat.max_eq_left (by omega), Array.getElem?_setIfInBounds_ne (by omega), Array.getElem?_setIfInBounds_ne (by omega)]
      exact hq q hqp
/-- the rows, before they are sorted -/
def RowsW (w1 wr : World) (p : Nat) (l : List Tri) (m : Nat) (v : Value) : Prop :=
  ∃ (vs : List Value) (cs : Array Value), GridW wr (w1.heap.size + 1) v vs (rowsU (levL l m)) ∧ Blk wr w1.heap.size 3 cs ∧ cs.size = p ∧ Hid (∀ q, q < p → cs[q]? = some (.int .i64 (depAt l (levL l m) m q))) ∧ Below w1.heap.size w1 wr
set_option maxRecDepth 100000 in
set_option maxHeartbeats 4000000 in
theorem drows_of (HSAID : Hid SortSaid) (p : Nat) (A : Option Addr) (l : List Tri) (c : Nat) (w : World) (H : Nat) (hr : RdT w H A l) (hH : H ≤ w.heap.size)
    (hw : ∀ (k : Nat) (hk : k < l.length), l[k].s.size ≤ 9223372036854775807) (hchk : sheetE p l = 0) (h2 : 2 ≤ p) (h24 : p ≤ 24)
    (hb : ∀ (k : Nat) (hk : k < l.length), 0 ≤ l[k].b ∧ l[k].b ≤ (p : Int) - 2) (hl : l.length ≤ 400) :
    Calls Tryz.prog 18 #[.agg #[.int .i64 p, .slice A l.length c]] w fun e w' => ∃ v vs, e = .returned (.tuple #[v, .int .i64 0]) ∧ GridW w' w.heap.size v vs ((List.range (rowsN (levL l l.length))).map (rowS p l (levL l l.length))) ∧ Below w.heap.size w w' := by
  obtain ⟨i0, hi0, hz0', hz1', hz2'⟩ := info_parts infoInt
  obtain ⟨i1, hi1, hy0', hy1', hy2'⟩ := info_parts infoInts
  have HC := Lib.hid hchk
  have HH := Lib.hid hb
  have kS0 := Blk.new w 25 #[.int .i64 p, .slice A l.length c]
  have hB0 : Below w.heap.size w (w.alloc (.cells #[.int .i64 p, .slice A l.length c] 25)) := (Below.refl _ _).alloc (Nat.le_refl _) _
  have HSH := Lib.hid (sheet_any p A l c (w.alloc (.cells #[.int .i64 p, .slice A l.length c] 25)) H (hr.below' hB0 hH) (Nat.le_trans hH hB0.size) hw (by omega))
  rw [hchk] at HSH
  clear hchk hb
  go_enter Tryz.func18, Tryz.ntmps18
  go_wp2_with fail
  refine HSH.out.mono ?_
  rintro e w1 ⟨rfl, hB1⟩
  have kS := kS0.below' hB1
  have hBw := hB0.trans (hB1.mono hB0.size)
  have c0 := kS.cell 0 (.int .i64 p) rfl
  have c1 := kS.cell 1 (.slice A l.length c) rfl
  have n0 := kS.lt
  go_wp2_with (first
    | (at_make; refine wpList_make_full _ rfl _ _ _ rfl w1.heap.size _ i0 _ 1 Tryz.underlying45 hi0 hz0' hz1' .i64 .i64 _ _ p rfl rfl rfl rfl (by rw [hz2']; omega) (by unfold maxLen; omega) (Nat.le_refl _) ?_; intro w2 hown0 hg0
       obtain ⟨cs0, kD0, hcs0, hz0⟩ := zeros_blk (by omega) hown0
       have hB2 : Below w1.heap.size w1 w2 := ⟨hg0.os, hg0.tape, hg0.output, hg0.size, fun k hk => hg0.block k hk (by simp)⟩
       have kS2 := kS.below' hB2
       have c02 := kS2.cell 0 (.int .i64 p) rfl
       have c12 := kS2.cell 1 (.slice A l.length c) rfl
       have n02 := kS2.lt
       clear hown0 hg0)
    | fail)
  go_loopw [6, 23] (fun v i wr => ∃ m : Nat, i = .int .i64 m ∧ m ≤ l.length ∧ RowsW w1 wr p l m v) (fun _ i _ => l.length - (intOf i).toNat)
  case atStart => exact ⟨0, rfl, Nat.zero_le _, [], cs0, GridW.nil _ _, kD0, hcs0, Lib.hid (fun q hq => hz0 q hq), hB2⟩
  case round =>
    obtain ⟨m, rfl, hm, vs, cs, hG, kD, hcs, hcq, hB⟩ := hrel
    have hz := hB.size
    have kSr := kS.below' hB
    have c0r := kSr.cell 0 (.int .i64 p) rfl
    have c1r := kSr.cell 1 (.slice A l.length c) rfl
    have n0r := kSr.lt
    have hLl := levL_len l m
    have hRl : (rowsU (levL l m)).length = rowsN (levL l m) := rowsU_len _
    have hRm := rowsN_le l m
    by_cases hlt : m < l.length
    · have hrm : RdT wr H A l := hr.below' (hBw.trans (hB.mono hBw.size)) hH
      obtain ⟨b, o, rfl, hb0, g0, g1, g2⟩ := hrm.tri hlt
      have hbd := HH.out m hlt
      obtain ⟨t, ht⟩ : ∃ t : Nat, l[m].b = t := ⟨l[m].b.toNat, by omega⟩
      rw [ht] at g1 hbd
      have HT := Lib.hid ht
      clear ht
      have q0 := kD.cell t _ (hcq.out t (by omega))
      have q1 := kD.cell (t + 1) _ (hcq.out (t + 1) (by omega))
      have hN0 := dep_le_rows l (levL l m) m t hLl
      have hN1 := dep_le_rows l (levL l m) m (t + 1) hLl
      obtain ⟨x0, hx0⟩ : ∃ x0, Hid (depAt l (levL l m) m t = x0) := ⟨_, Lib.hid rfl⟩
      obtain ⟨x1, hx1⟩ : ∃ x1, Hid (depAt l (levL l m) m (t + 1) = x1) := ⟨_, Lib.hid rfl⟩
      rw [hx0.out] at q0 hN0
      rw [hx1.out] at q1 hN1
      have kDl := kD.lt
      have i0' : (m : Int) < (l.length : Int) := by omega
      have j0 : (0 : Int) ≤ (t : Int) := by omega
      have j1 : (t : Int) < (p : Int) := by omega
      have j2 : (0 : Int) ≤ (t : Int) + 1 := by omega
      have j3 : (t : Int) + 1 < (p : Int) := by omega
      have e1 : IntKind.i64.wrap ((t : Int) + 1) = (t : Int) + 1 := IntWalk.i64_in _ (by omega)
      have e2 : ((t : Int) + 1).toNat = t + 1 := by omega
      have e3 : IntKind.i64.wrap ((x0 : Int) + 1) = (x0 : Int) + 1 := IntWalk.i64_in _ (by omega)
      have e4 : IntKind.i64.wrap ((x1 : Int) + 1) = (x1 : Int) + 1 := IntWalk.i64_in _ (by omega)
      obtain ⟨Ao, co, hv, hco, _⟩ := hG.rd
      rw [hRl] at hv
      obtain ⟨NR, hNR⟩ : ∃ NR, Hid (rowsN (levL l m) = NR) := ⟨_, Lib.hid rfl⟩
      rw [hNR.out] at hv hRl hRm hN0 hN1
      subst hv
      by_cases hh : x0 < x1
      · have hh' : (x0 : Int) < (x1 : Int) := by omega
        by_cases hnew : x1 = NR
        · skip
          have HLV : Hid (levAt l (levL l m) m = x1) := Lib.hid (by rw [lev_dep l _ m t (by rw [xAt_of hlt]; exact HT.out), hx0.out, hx1.out]; omega)
          subst hnew
          go_wp2_with fail
          go_quiet (fail)
          have hbox : Blk ((wr.alloc (.cells #[.int .i64 l[m].a, .int .i64 t, .string l[m].s] 44)).drewN nq) wr.heap.size 44 #[.int .i64 l[m].a, .int .i64 t, .string l[m].s] := Blk.new wr _ _
          have hB3 : Below w1.heap.size w1 ((wr.alloc (.cells #[.int .i64 l[m].a, .int .i64 t, .string l[m].s] 44)).drewN nq) := (hB.alloc hz _).drewN nq
          have hD3 : Blk ((wr.alloc (.cells #[.int .i64 l[m].a, .int .i64 t, .string l[m].s] 44)).drewN nq) w1.heap.size 3 cs := kD.alloc _
          have hG3' := hG.alloc (.cells #[.int .i64 l[m].a, .int .i64 t, .string l[m].s] 44)
          have hG3 : GridW ((wr.alloc (.cells #[.int .i64 l[m].a, .int .i64 t, .string l[m].s] 44)).drewN nq) (w1.heap.size + 1) (.slice Ao x1 co) vs (rowsU (levL l m)) := ⟨hG3'.out, hG3'.len, hG3'.inn, hG3'.sep⟩
          clear hG3'
          generalize (wr.alloc (.cells #[.int .i64 l[m].a, .int .i64 t, .string l[m].s] 44)).drewN nq = W at *
          have y1 := hbox.cell 1 _ rfl
          have yl := hbox.lt
          have d0 := hD3.cell t _ (hcq.out t (by omega))
          have d1 := hD3.cell (t + 1) _ (hcq.out (t + 1) (by omega))
          have z0 := hD3.frozen t
          have z1 := hD3.frozen (t + 1)
          have dl := hD3.lt
          go_wp2_with fail
          go_region
          have kD4 : Blk ((W.setCell ⟨w1.heap.size, t, none⟩ (.int .i64 ((x1 : Int) + 1))).setCell ⟨w1.heap.size, t + 1, none⟩ (.int .i64 ((x1 : Int) + 1))).drew w1.heap.size 3 _ := ((hD3.set_ t (.int .i64 ((x1 : Int) + 1))).set_ (t + 1) (.int .i64 ((x1 : Int) + 1)))
          have hG4 := ((hG3.far (p := ⟨w1.heap.size, t, none⟩) (Nat.lt_succ_self _) (.int .i64 ((x1 : Int) + 1))).far (p := ⟨w1.heap.size, t + 1, none⟩) (Nat.lt_succ_self _) (.int .i64 ((x1 : Int) + 1))).drew
          have hB4 := ((hB3.setCell (p := ⟨w1.heap.size, t, none⟩) (Nat.le_refl _) (.int .i64 ((x1 : Int) + 1))).setCell (p := ⟨w1.heap.size, t + 1, none⟩) (Nat.le_refl _) (.int .i64 ((x1 : Int) + 1))).drew
          clear d0 d1 z0 z1 dl y1 yl hbox hG3 hD3 hB3
          generalize ((W.setCell ⟨w1.heap.size, t, none⟩ (.int .i64 ((x1 : Int) + 1))).setCell ⟨w1.heap.size, t + 1, none⟩ (.int .i64 ((x1 : Int) + 1))).drew = W2 at *
          have hz4 := hB4.size
          have hvl := hG4.len
          go_wp2_with (first
            | (at_builtin; refine wpList_append_row rfl (.tmp 57) (.tmp 58) _ rfl (w1.heap.size + 1) _ i1 _ Tryz.underlying40 hi1 hy0' hy1' hy2' rfl _ vs rfl (hG4.out.alloc _) W2.heap.size (.slice none 0 0) rfl rfl (cell_new rfl) (by omega) (by simp; omega) ?_; intro v5 w5 ho5 hg5
               have hG5 := (hG4.alloc (.cells #[.slice none 0 0] 45)).more ho5 hg5
               have hvs5 : (vs ++ [Value.slice none 0 0]).length = x1 + 1 := by simp [hvl, hRl]
               obtain ⟨go, co5, hv5⟩ := hG5.addr (by simp)
               rw [hvs5] at hv5
               subst hv5
               obtain ⟨hgo, hgol, hcell5, hfz5⟩ := own_addr ho5
               have hnl : (vs ++ [Value.slice none 0 0])[x1]'(by omega) = Value.slice none 0 0 := by rw [List.getElem_append_right (by omega)]; simp
               have p5 := hcell5 x1 (by omega)
               rw [hnl] at p5
               have k5 : (x1 : Int) < ((x1 + 1 : Nat) : Int) := by omega
               have k6 : (0 : Int) ≤ (x1 : Int) := by omega
               have hB5 := (hG4.out.alloc (.cells #[.slice none 0 0] 45)).base (Nat.le_succ _) |>.grown (hB4.alloc hz4 (.cells #[.slice none 0 0] 45)) hg5 (by simp; omega)
               have hz5 := hB5.size
               have tk := True.intro)
            | (at_builtin; have := tk; refine wpList_append_nb rfl (.tmp 65) (.tmp 67) _ rfl (w1.heap.size + 1) _ i0 _ Tryz.underlying45 hi0 hz0' hz1' hz2' rfl (.slice none 0 0) [] rfl (Own.nil _ _ _) w5.heap.size m rfl (cell_new rfl) (by simp) (by simp; omega) ?_; intro v6 w6 ho6 hg6 hb6
               obtain ⟨A6, c6, rfl, _, _⟩ := Own.rd nenc_len ho6
               have hG5a := hG5.alloc (.cells #[.int .i64 m] 3)
               have ho6' : Own 1 venc w6 (w1.heap.size + 1) 45 (.slice (some ⟨go, 0, none⟩) (x1 + 1) co5) (vs ++ [.slice none 0 0]) := World.ownsRow.kept hG5a.out hg6 (.inr (by simp [Value.ownBlock]))
               obtain ⟨_, hgol6, hcell6, hfz6⟩ := own_addr ho6'
               have p6 := hcell6 x1 (by omega)
               have f6 := hfz6 x1)
            | fail)
          go_roundw
          case rel =>
            have hne6 : w1.heap.size ≠ go := by omega
            have hxm : (xAt l m).b = (t : Int) := by rw [xAt_of hlt]; exact HT.out
            have hlev : levL l (m + 1) = levL l m ++ [x1] := by rw [levL, HLV.out]
            have kD5 := (kD4.alloc (.cells #[.slice none 0 0] 45)).grown hg5 (Own.ne_block (hG4.out.alloc (.cells #[.slice none 0 0] 45)) (kD4.alloc (.cells #[.slice none 0 0] 45)) (by decide))
            have kD6 := ((kD5.alloc (.cells #[.int .i64 m] 3)).grown hg6 (by simp [Value.ownBlock])).far (p := ⟨go, x1, none⟩) hne6 (.slice A6 1 c6)
            have hGf := hG5a.put (n := x1) (u := .slice A6 1 c6) (r := [] ++ [m]) (by omega) (by rw [hvs5]) ho6 (by rw [hnl]; exact hg6) (by rw [hnl]; exact hb6)
            have hru := rowsU_new (L := levL l m) (n := x1) hNR.out.symm
            have hBf := Below.setCell (((hB5.alloc hz5 (.cells #[.int .i64 m] 3))).grown hg6 (by rw [World.size_alloc]; omega) (fun k hk => by simp [Value.ownBlock] at hk)) (p := ⟨go, x1, none⟩) (by show w1.heap.size ≤ go; omega) (.slice A6 1 c6)
            rw [hLl] at hru
            rw [hru] at hGf
            refine ⟨m + 1, by go_num, by omega, _, _, by rw [hlev]; exact hGf, kD6, by simp [hcs], Lib.hid (fun q hq => ?_), hBf⟩
            rw [hlev]
            exact dep_next hcs hcq.out hLl hxm (by rw [hx0.out]; omega) (by rw [hx1.out]; omega) q hq
          case measure => simp [intOf]; omega
        · skip
          have HLV : Hid (levAt l (levL l m) m = x1) := Lib.hid (by rw [lev_dep l _ m t (by rw [xAt_of hlt]; exact HT.out), hx0.out, hx1.out]; omega)
          have hnl : x1 < NR := by omega
          have hGl := hG.len
          obtain ⟨go, co', hvo⟩ := hG.addr (by omega)
          simp only [Value.slice.injEq] at hvo
          obtain ⟨rfl, hnn, rfl⟩ := hvo
          clear hnn
          have HRl := Lib.hid hRl
          have HNL := Lib.hid hnl
          clear hGl hRl hnl hnew
          have hj : (x1 : Int) ≠ (NR : Int) := by have := HNL.out; omega
          have hj2 : ((x1 : Int) == (NR : Int)) = false := by rw [beq_eq_false_iff_ne]; exact hj
          clear hj
          go_wp2_with fail
          go_quiet (fail)
          have hbox : Blk ((wr.alloc (.cells #[.int .i64 l[m].a, .int .i64 t, .string l[m].s] 44)).drewN nq) wr.heap.size 44 #[.int .i64 l[m].a, .int .i64 t, .string l[m].s] := Blk.new wr _ _
          have hB3 : Below w1.heap.size w1 ((wr.alloc (.cells #[.int .i64 l[m].a, .int .i64 t, .string l[m].s] 44)).drewN nq) := (hB.alloc hz _).drewN nq
          have hD3 : Blk ((wr.alloc (.cells #[.int .i64 l[m].a, .int .i64 t, .string l[m].s] 44)).drewN nq) w1.heap.size 3 cs := kD.alloc _
          have hG3' := hG.alloc (.cells #[.int .i64 l[m].a, .int .i64 t, .string l[m].s] 44)
          have hG3 : GridW ((wr.alloc (.cells #[.int .i64 l[m].a, .int .i64 t, .string l[m].s] 44)).drewN nq) (w1.heap.size + 1) (.slice (some ⟨go, 0, none⟩) NR co) vs (rowsU (levL l m)) := ⟨hG3'.out, hG3'.len, hG3'.inn, hG3'.sep⟩
          clear hG3'
          generalize (wr.alloc (.cells #[.int .i64 l[m].a, .int .i64 t, .string l[m].s] 44)).drewN nq = W at *
          have y1 := hbox.cell 1 _ rfl
          have yl := hbox.lt
          have d0 := hD3.cell t _ (hcq.out t (by omega))
          have d1 := hD3.cell (t + 1) _ (hcq.out (t + 1) (by omega))
          have z0 := hD3.frozen t
          have z1 := hD3.frozen (t + 1)
          have dl := hD3.lt
          go_wp2_with fail
          go_region
          have kD4 : Blk ((W.setCell ⟨w1.heap.size, t, none⟩ (.int .i64 ((x1 : Int) + 1))).setCell ⟨w1.heap.size, t + 1, none⟩ (.int .i64 ((x1 : Int) + 1))).drew w1.heap.size 3 _ := ((hD3.set_ t (.int .i64 ((x1 : Int) + 1))).set_ (t + 1) (.int .i64 ((x1 : Int) + 1)))
          have hG4 := ((hG3.far (p := ⟨w1.heap.size, t, none⟩) (Nat.lt_succ_self _) (.int .i64 ((x1 : Int) + 1))).far (p := ⟨w1.heap.size, t + 1, none⟩) (Nat.lt_succ_self _) (.int .i64 ((x1 : Int) + 1))).drew
          have hB4 := ((hB3.setCell (p := ⟨w1.heap.size, t, none⟩) (Nat.le_refl _) (.int .i64 ((x1 : Int) + 1))).setCell (p := ⟨w1.heap.size, t + 1, none⟩) (Nat.le_refl _) (.int .i64 ((x1 : Int) + 1))).drew
          clear d0 d1 z0 z1 dl y1 yl hbox hG3 hD3 hB3
          generalize ((W.setCell ⟨w1.heap.size, t, none⟩ (.int .i64 ((x1 : Int) + 1))).setCell ⟨w1.heap.size, t + 1, none⟩ (.int .i64 ((x1 : Int) + 1))).drew = W2 at *
          have hz4 := hB4.size
          have hvl := hG4.len
          have HVL := Lib.hid hvl
          clear hvl
          obtain ⟨hgo, hgol, hcell, hfz⟩ := own_addr hG4.out
          have hn4 : x1 < vs.length := by have := HVL.out; have := HRl.out; have := HNL.out; omega
          obtain ⟨An, cn, hvn, _, _⟩ := Own.rd nenc_len (hG4.inn x1 hn4)
          have hrow : (rowsU (levL l m)).getD x1 [] = rowF (levL l m) x1 := by unfold rowsU; rw [List.getD_eq_getElem?_getD, List.getElem?_map, List.getElem?_range (by rw [hNR.out]; exact HNL.out)]; rfl
          have hOn := hG4.inn x1 hn4
          rw [hrow] at hvn hOn
          have hrl := rowF_len (levL l m) x1
          rw [hLl] at hrl
          obtain ⟨rl, hrl2⟩ : ∃ rl, Hid ((rowF (levL l m) x1).length = rl) := ⟨_, Lib.hid rfl⟩
          rw [hrl2.out] at hvn hrl
          have HVN := Lib.hid hvn
          rw [hvn] at hOn
          have p5 := hcell x1 hn4
          rw [hvn] at p5
          have f5 := hfz x1
          clear hvn hrow hfz
          have HCE := Lib.hid hcell
          clear hcell
          have k5 : (x1 : Int) < (NR : Int) := by have := HNL.out; omega
          have k6 : (0 : Int) ≤ (x1 : Int) := by omega
          go_wp2_with (first
            | (at_builtin; refine wpList_append_nb rfl (.tmp 65) (.tmp 67) _ rfl (w1.heap.size + 1) _ i0 _ Tryz.underlying45 hi0 hz0' hz1' hz2' rfl (.slice An rl cn) (rowF (levL l m) x1) rfl (hOn.alloc _) W2.heap.size m rfl (cell_new rfl) (by rw [hrl2.out]; omega) (by simp; omega) ?_; intro v6 w6 ho6 hg6 hb6
               obtain ⟨A6, c6, hv6, _, _⟩ := Own.rd nenc_len ho6
               rw [show (rowF (levL l m) x1 ++ [m]).length = rl + 1 from by rw [List.length_append, hrl2.out]; rfl] at hv6
               subst hv6
               have hG4a := hG4.alloc (.cells #[.int .i64 m] 3)
               have hg6' : (W2.alloc (.cells #[.int .i64 m] 3)).grownBy w6 (vs[x1]'hn4).ownBlock := by rw [HVN.out]; exact hg6
               have ho6' : Own 1 venc w6 (w1.heap.size + 1) 45 (.slice (some ⟨go, 0, none⟩) NR co) vs := World.ownsRow.kept hG4a.out hg6' (hG4a.ne' hn4)
               obtain ⟨_, hgol6, hcell6, hfz6⟩ := own_addr ho6'
               have p6 := hcell6 x1 hn4
               rw [HVN.out] at p6
               have f6 := hfz6 x1)
            | fail)
          go_roundw
          case rel =>
            have hne6 : w1.heap.size ≠ go := by omega
            have hxm : (xAt l m).b = (t : Int) := by rw [xAt_of hlt]; exact HT.out
            have hlev : levL l (m + 1) = levL l m ++ [x1] := by rw [levL, HLV.out]
            have hnr : w1.heap.size ≠ go := hne6
            have kD6 := ((kD4.alloc (.cells #[.int .i64 m] 3)).grown hg6 (fun e => by have := (World.ownsRow.lt (hOn.alloc (.cells #[.int .i64 m] 3)) _ e.symm).1; omega)).far (p := ⟨go, x1, none⟩) hne6 (.slice A6 (rl + 1) c6)
            have hGf := hG4a.put (n := x1) (u := .slice A6 (rl + 1) c6) (r := rowF (levL l m) x1 ++ [m]) hn4 (by rw [HVL.out, HRl.out]) ho6 hg6' (by rw [HVN.out]; exact hb6)
            have hru := rowsU_old (L := levL l m) (n := x1) (by rw [hNR.out]; exact HNL.out)
            have hBf := Below.setCell (((hOn.alloc (.cells #[.int .i64 m] 3)).base (Nat.le_succ _)).grown (hB4.alloc hz4 (.cells #[.int .i64 m] 3)) hg6 (by rw [World.size_alloc]; omega)) (p := ⟨go, x1, none⟩) (by show w1.heap.size ≤ go; omega) (.slice A6 (rl + 1) c6)
            rw [hLl] at hru
            rw [hru] at hGf
            refine ⟨m + 1, by go_num, by omega, _, _, by rw [hlev]; exact hGf, kD6, by simp [hcs], Lib.hid (fun q hq => ?_), hBf⟩
            rw [hlev]
            exact dep_next hcs hcq.out hLl hxm (by rw [hx0.out]; omega) (by rw [hx1.out]; omega) q hq
          case measure => simp [intOf]; omega
      · have hh' : ¬ (x0 : Int) < (x1 : Int) := by omega
        by_cases hnew : x0 = NR
        · skip
          have HLV : Hid (levAt l (levL l m) m = x0) := Lib.hid (by rw [lev_dep l _ m t (by rw [xAt_of hlt]; exact HT.out), hx0.out, hx1.out]; omega)
          subst hnew
          go_wp2_with fail
          go_quiet (fail)
          have hbox : Blk ((wr.alloc (.cells #[.int .i64 l[m].a, .int .i64 t, .string l[m].s] 44)).drewN nq) wr.heap.size 44 #[.int .i64 l[m].a, .int .i64 t, .string l[m].s] := Blk.new wr _ _
          have hB3 : Below w1.heap.size w1 ((wr.alloc (.cells #[.int .i64 l[m].a, .int .i64 t, .string l[m].s] 44)).drewN nq) := (hB.alloc hz _).drewN nq
          have hD3 : Blk ((wr.alloc (.cells #[.int .i64 l[m].a, .int .i64 t, .string l[m].s] 44)).drewN nq) w1.heap.size 3 cs := kD.alloc _
          have hG3' := hG.alloc (.cells #[.int .i64 l[m].a, .int .i64 t, .string l[m].s] 44)
          have hG3 : GridW ((wr.alloc (.cells #[.int .i64 l[m].a, .int .i64 t, .string l[m].s] 44)).drewN nq) (w1.heap.size + 1) (.slice Ao x0 co) vs (rowsU (levL l m)) := ⟨hG3'.out, hG3'.len, hG3'.inn, hG3'.sep⟩
          clear hG3'
          generalize (wr.alloc (.cells #[.int .i64 l[m].a, .int .i64 t, .string l[m].s] 44)).drewN nq = W at *
          have y1 := hbox.cell 1 _ rfl
          have yl := hbox.lt
          have d0 := hD3.cell t _ (hcq.out t (by omega))
          have d1 := hD3.cell (t + 1) _ (hcq.out (t + 1) (by omega))
          have z0 := hD3.frozen t
          have z1 := hD3.frozen (t + 1)
          have dl := hD3.lt
          go_wp2_with fail
          go_region
          have kD4 : Blk ((W.setCell ⟨w1.heap.size, t, none⟩ (.int .i64 ((x0 : Int) + 1))).setCell ⟨w1.heap.size, t + 1, none⟩ (.int .i64 ((x0 : Int) + 1))).drew w1.heap.size 3 _ := ((hD3.set_ t (.int .i64 ((x0 : Int) + 1))).set_ (t + 1) (.int .i64 ((x0 : Int) + 1)))
          have hG4 := ((hG3.far (p := ⟨w1.heap.size, t, none⟩) (Nat.lt_succ_self _) (.int .i64 ((x0 : Int) + 1))).far (p := ⟨w1.heap.size, t + 1, none⟩) (Nat.lt_succ_self _) (.int .i64 ((x0 : Int) + 1))).drew
          have hB4 := ((hB3.setCell (p := ⟨w1.heap.size, t, none⟩) (Nat.le_refl _) (.int .i64 ((x0 : Int) + 1))).setCell (p := ⟨w1.heap.size, t + 1, none⟩) (Nat.le_refl _) (.int .i64 ((x0 : Int) + 1))).drew
          clear d0 d1 z0 z1 dl y1 yl hbox hG3 hD3 hB3
          generalize ((W.setCell ⟨w1.heap.size, t, none⟩ (.int .i64 ((x0 : Int) + 1))).setCell ⟨w1.heap.size, t + 1, none⟩ (.int .i64 ((x0 : Int) + 1))).drew = W2 at *
          have hz4 := hB4.size
          have hvl := hG4.len
          go_wp2_with (first
            | (at_builtin; refine wpList_append_row rfl (.tmp 57) (.tmp 58) _ rfl (w1.heap.size + 1) _ i1 _ Tryz.underlying40 hi1 hy0' hy1' hy2' rfl _ vs rfl (hG4.out.alloc _) W2.heap.size (.slice none 0 0) rfl rfl (cell_new rfl) (by omega) (by simp; omega) ?_; intro v5 w5 ho5 hg5
               have hG5 := (hG4.alloc (.cells #[.slice none 0 0] 45)).more ho5 hg5
               have hvs5 : (vs ++ [Value.slice none 0 0]).length = x0 + 1 := by simp [hvl, hRl]
               obtain ⟨go, co5, hv5⟩ := hG5.addr (by simp)
               rw [hvs5] at hv5
               subst hv5
               obtain ⟨hgo, hgol, hcell5, hfz5⟩ := own_addr ho5
               have hnl : (vs ++ [Value.slice none 0 0])[x0]'(by omega) = Value.slice none 0 0 := by rw [List.getElem_append_right (by omega)]; simp
               have p5 := hcell5 x0 (by omega)
               rw [hnl] at p5
               have k5 : (x0 : Int) < ((x0 + 1 : Nat) : Int) := by omega
               have k6 : (0 : Int) ≤ (x0 : Int) := by omega
               have hB5 := (hG4.out.alloc (.cells #[.slice none 0 0] 45)).base (Nat.le_succ _) |>.grown (hB4.alloc hz4 (.cells #[.slice none 0 0] 45)) hg5 (by simp; omega)
               have hz5 := hB5.size
               have tk := True.intro)
            | (at_builtin; have := tk; refine wpList_append_nb rfl (.tmp 65) (.tmp 67) _ rfl (w1.heap.size + 1) _ i0 _ Tryz.underlying45 hi0 hz0' hz1' hz2' rfl (.slice none 0 0) [] rfl (Own.nil _ _ _) w5.heap.size m rfl (cell_new rfl) (by simp) (by simp; omega) ?_; intro v6 w6 ho6 hg6 hb6
               obtain ⟨A6, c6, rfl, _, _⟩ := Own.rd nenc_len ho6
               have hG5a := hG5.alloc (.cells #[.int .i64 m] 3)
               have ho6' : Own 1 venc w6 (w1.heap.size + 1) 45 (.slice (some ⟨go, 0, none⟩) (x0 + 1) co5) (vs ++ [.slice none 0 0]) := World.ownsRow.kept hG5a.out hg6 (.inr (by simp [Value.ownBlock]))
               obtain ⟨_, hgol6, hcell6, hfz6⟩ := own_addr ho6'
               have p6 := hcell6 x0 (by omega)
               have f6 := hfz6 x0)
            | fail)
          go_roundw
          case rel =>
            have hne6 : w1.heap.size ≠ go := by omega
            have hxm : (xAt l m).b = (t : Int) := by rw [xAt_of hlt]; exact HT.out
            have hlev : levL l (m + 1) = levL l m ++ [x0] := by rw [levL, HLV.out]
            have kD5 := (kD4.alloc (.cells #[.slice none 0 0] 45)).grown hg5 (Own.ne_block (hG4.out.alloc (.cells #[.slice none 0 0] 45)) (kD4.alloc (.cells #[.slice none 0 0] 45)) (by decide))
            have kD6 := ((kD5.alloc (.cells #[.int .i64 m] 3)).grown hg6 (by simp [Value.ownBlock])).far (p := ⟨go, x0, none⟩) hne6 (.slice A6 1 c6)
            have hGf := hG5a.put (n := x0) (u := .slice A6 1 c6) (r := [] ++ [m]) (by omega) (by rw [hvs5]) ho6 (by rw [hnl]; exact hg6) (by rw [hnl]; exact hb6)
            have hru := rowsU_new (L := levL l m) (n := x0) hNR.out.symm
            have hBf := Below.setCell (((hB5.alloc hz5 (.cells #[.int .i64 m] 3))).grown hg6 (by rw [World.size_alloc]; omega) (fun k hk => by simp [Value.ownBlock] at hk)) (p := ⟨go, x0, none⟩) (by show w1.heap.size ≤ go; omega) (.slice A6 1 c6)
            rw [hLl] at hru
            rw [hru] at hGf
            refine ⟨m + 1, by go_num, by omega, _, _, by rw [hlev]; exact hGf, kD6, by simp [hcs], Lib.hid (fun q hq => ?_), hBf⟩
            rw [hlev]
            exact dep_next hcs hcq.out hLl hxm (by rw [hx0.out]; omega) (by rw [hx1.out]; omega) q hq
          case measure => simp [intOf]; omega
        · skip
          have HLV : Hid (levAt l (levL l m) m = x0) := Lib.hid (by rw [lev_dep l _ m t (by rw [xAt_of hlt]; exact HT.out), hx0.out, hx1.out]; omega)
          have hnl : x0 < NR := by omega
          have hGl := hG.len
          obtain ⟨go, co', hvo⟩ := hG.addr (by omega)
          simp only [Value.slice.injEq] at hvo
          obtain ⟨rfl, hnn, rfl⟩ := hvo
          clear hnn
          have HRl := Lib.hid hRl
          have HNL := Lib.hid hnl
          clear hGl hRl hnl hnew
          have hj : (x0 : Int) ≠ (NR : Int) := by have := HNL.out; omega
          have hj2 : ((x0 : Int) == (NR : Int)) = false := by rw [beq_eq_false_iff_ne]; exact hj
          clear hj
          go_wp2_with fail
          go_quiet (fail)
          have hbox : Blk ((wr.alloc (.cells #[.int .i64 l[m].a, .int .i64 t, .string l[m].s] 44)).drewN nq) wr.heap.size 44 #[.int .i64 l[m].a, .int .i64 t, .string l[m].s] := Blk.new wr _ _
          have hB3 : Below w1.heap.size w1 ((wr.alloc (.cells #[.int .i64 l[m].a, .int .i64 t, .string l[m].s] 44)).drewN nq) := (hB.alloc hz _).drewN nq
          have hD3 : Blk ((wr.alloc (.cells #[.int .i64 l[m].a, .int .i64 t, .string l[m].s] 44)).drewN nq) w1.heap.size 3 cs := kD.alloc _
          have hG3' := hG.alloc (.cells #[.int .i64 l[m].a, .int .i64 t, .string l[m].s] 44)
          have hG3 : GridW ((wr.alloc (.cells #[.int .i64 l[m].a, .int .i64 t, .string l[m].s] 44)).drewN nq) (w1.heap.size + 1) (.slice (some ⟨go, 0, none⟩) NR co) vs (rowsU (levL l m)) := ⟨hG3'.out, hG3'.len, hG3'.inn, hG3'.sep⟩
          clear hG3'
          generalize (wr.alloc (.cells #[.int .i64 l[m].a, .int .i64 t, .string l[m].s] 44)).drewN nq = W at *
          have y1 := hbox.cell 1 _ rfl
          have yl := hbox.lt
          have d0 := hD3.cell t _ (hcq.out t (by omega))
          have d1 := hD3.cell (t + 1) _ (hcq.out (t + 1) (by omega))
          have z0 := hD3.frozen t
          have z1 := hD3.frozen (t + 1)
          have dl := hD3.lt
          go_wp2_with fail
          go_region
          have kD4 : Blk ((W.setCell ⟨w1.heap.size, t, none⟩ (.int .i64 ((x0 : Int) + 1))).setCell ⟨w1.heap.size, t + 1, none⟩ (.int .i64 ((x0 : Int) + 1))).drew w1.heap.size 3 _ := ((hD3.set_ t (.int .i64 ((x0 : Int) + 1))).set_ (t + 1) (.int .i64 ((x0 : Int) + 1)))
          have hG4 := ((hG3.far (p := ⟨w1.heap.size, t, none⟩) (Nat.lt_succ_self _) (.int .i64 ((x0 : Int) + 1))).far (p := ⟨w1.heap.size, t + 1, none⟩) (Nat.lt_succ_self _) (.int .i64 ((x0 : Int) + 1))).drew
          have hB4 := ((hB3.setCell (p := ⟨w1.heap.size, t, none⟩) (Nat.le_refl _) (.int .i64 ((x0 : Int) + 1))).setCell (p := ⟨w1.heap.size, t + 1, none⟩) (Nat.le_refl _) (.int .i64 ((x0 : Int) + 1))).drew
          clear d0 d1 z0 z1 dl y1 yl hbox hG3 hD3 hB3
          generalize ((W.setCell ⟨w1.heap.size, t, none⟩ (.int .i64 ((x0 : Int) + 1))).setCell ⟨w1.heap.size, t + 1, none⟩ (.int .i64 ((x0 : Int) + 1))).drew = W2 at *
          have hz4 := hB4.size
          have hvl := hG4.len
          have HVL := Lib.hid hvl
          clear hvl
          obtain ⟨hgo, hgol, hcell, hfz⟩ := own_addr hG4.out
          have hn4 : x0 < vs.length := by have := HVL.out; have := HRl.out; have := HNL.out; omega
          obtain ⟨An, cn, hvn, _, _⟩ := Own.rd nenc_len (hG4.inn x0 hn4)
          have hrow : (rowsU (levL l m)).getD x0 [] = rowF (levL l m) x0 := by unfold rowsU; rw [List.getD_eq_getElem?_getD, List.getElem?_map, List.getElem?_range (by rw [hNR.out]; exact HNL.out)]; rfl
          have hOn := hG4.inn x0 hn4
          rw [hrow] at hvn hOn
          have hrl := rowF_len (levL l m) x0
          rw [hLl] at hrl
          obtain ⟨rl, hrl2⟩ : ∃ rl, Hid ((rowF (levL l m) x0).length = rl) := ⟨_, Lib.hid rfl⟩
          rw [hrl2.out] at hvn hrl
          have HVN := Lib.hid hvn
          rw [hvn] at hOn
          have p5 := hcell x0 hn4
          rw [hvn] at p5
          have f5 := hfz x0
          clear hvn hrow hfz
          have HCE := Lib.hid hcell
          clear hcell
          have k5 : (x0 : Int) < (NR : Int) := by have := HNL.out; omega
          have k6 : (0 : Int) ≤ (x0 : Int) := by omega
          go_wp2_with (first
            | (at_builtin; refine wpList_append_nb rfl (.tmp 65) (.tmp 67) _ rfl (w1.heap.size + 1) _ i0 _ Tryz.underlying45 hi0 hz0' hz1' hz2' rfl (.slice An rl cn) (rowF (levL l m) x0) rfl (hOn.alloc _) W2.heap.size m rfl (cell_new rfl) (by rw [hrl2.out]; omega) (by simp; omega) ?_; intro v6 w6 ho6 hg6 hb6
               obtain ⟨A6, c6, hv6, _, _⟩ := Own.rd nenc_len ho6
               rw [show (rowF (levL l m) x0 ++ [m]).length = rl + 1 from by rw [List.length_append, hrl2.out]; rfl] at hv6
               subst hv6
               have hG4a := hG4.alloc (.cells #[.int .i64 m] 3)
               have hg6' : (W2.alloc (.cells #[.int .i64 m] 3)).grownBy w6 (vs[x0]'hn4).ownBlock := by rw [HVN.out]; exact hg6
               have ho6' : Own 1 venc w6 (w1.heap.size + 1) 45 (.slice (some ⟨go, 0, none⟩) NR co) vs := World.ownsRow.kept hG4a.out hg6' (hG4a.ne' hn4)
               obtain ⟨_, hgol6, hcell6, hfz6⟩ := own_addr ho6'
               have p6 := hcell6 x0 hn4
               rw [HVN.out] at p6
               have f6 := hfz6 x0)
            | fail)
          go_roundw
          case rel =>
            have hne6 : w1.heap.size ≠ go := by omega
            have hxm : (xAt l m).b = (t : Int) := by rw [xAt_of hlt]; exact HT.out
            have hlev : levL l (m + 1) = levL l m ++ [x0] := by rw [levL, HLV.out]
            have hnr : w1.heap.size ≠ go := hne6
            have kD6 := ((kD4.alloc (.cells #[.int .i64 m] 3)).grown hg6 (fun e => by have := (World.ownsRow.lt (hOn.alloc (.cells #[.int .i64 m] 3)) _ e.symm).1; omega)).far (p := ⟨go, x0, none⟩) hne6 (.slice A6 (rl + 1) c6)
            have hGf := hG4a.put (n := x0) (u := .slice A6 (rl + 1) c6) (r := rowF (levL l m) x0 ++ [m]) hn4 (by rw [HVL.out, HRl.out]) ho6 hg6' (by rw [HVN.out]; exact hb6)
            have hru := rowsU_old (L := levL l m) (n := x0) (by rw [hNR.out]; exact HNL.out)
            have hBf := Below.setCell (((hOn.alloc (.cells #[.int .i64 m] 3)).base (Nat.le_succ _)).grown (hB4.alloc hz4 (.cells #[.int .i64 m] 3)) hg6 (by rw [World.size_alloc]; omega)) (p := ⟨go, x0, none⟩) (by show w1.heap.size ≤ go; omega) (.slice A6 (rl + 1) c6)
            rw [hLl] at hru
            rw [hru] at hGf
            refine ⟨m + 1, by go_num, by omega, _, _, by rw [hlev]; exact hGf, kD6, by simp [hcs], Lib.hid (fun q hq => ?_), hBf⟩
            rw [hlev]
            exact dep_next hcs hcq.out hLl hxm (by rw [hx0.out]; omega) (by rw [hx1.out]; omega) q hq
          case measure => simp [intOf]; omega
    · obtain rfl : m = l.length := by omega
      obtain ⟨Ao, co, hv, hco, _⟩ := hG.rd
      have hvl0 := hG.len
      rw [hRl] at hv hvl0
      rw [← mixR_zero p l] at hG
      obtain ⟨vv, hvv⟩ : ∃ vv, Hid (Value.slice Ao (rowsN (levL l l.length)) co = vv) := ⟨_, Lib.hid rfl⟩
      obtain ⟨NR, hNR⟩ : ∃ NR, Hid (rowsN (levL l l.length) = NR) := ⟨_, Lib.hid rfl⟩
      rw [hNR.out] at hv hvl0 hRm
      subst hv
      have hG0 := hG
      have HVL := Lib.hid hvl0
      have HLL := Lib.hid hLl
      have hNR4 : NR ≤ 400 := by omega
      clear hcq kD hvl0 hRl hLl hRm hco hvv hG
      go_wp2_with fail
      obtain ⟨wo, hwo⟩ : ∃ wo : World, wo = wr := ⟨_, rfl⟩
      obtain rfl := hwo
      go_loopw [73] (fun jv wr => ∃ j : Nat, j ≤ NR ∧ jv = .int .i64 j ∧ GridW wr (w1.heap.size + 1) (.slice Ao NR co) vs (mixR p l (levL l l.length) j) ∧ Below w1.heap.size w1 wr) (fun jv _ => NR - (intOf jv).toNat)
      case atStart => exact ⟨0, Nat.zero_le _, rfl, hG0, hB⟩
      case round =>
        clear hB hG0 kSr c0r c1r n0r hz
        obtain ⟨j, hj, rfl, hG2, hB2⟩ := hrel
        have hz2 := hB2.size
        have kSr := kS.below' hB2
        have c1r := kSr.cell 1 (.slice A l.length c) rfl
        have n0r := kSr.lt
        by_cases hjl : j < NR
        · have hjv : j < vs.length := by rw [HVL.out]; exact hjl
          obtain ⟨go, c', hvo⟩ := hG2.addr (by omega)
          simp only [Value.slice.injEq] at hvo
          obtain ⟨rfl, hnn, rfl⟩ := hvo
          clear hnn
          obtain ⟨hgo, hgol, hcell, hfz⟩ := own_addr hG2.out
          have hOn := hG2.inn j hjv
          rw [mixR_get p l _ j (by rw [hNR.out]; exact hjl)] at hOn
          obtain ⟨An, cn, hvn, _, _⟩ := Own.rd nenc_len hOn
          have p5 := hcell j hjv
          rw [hvn] at p5 hOn
          obtain ⟨rl, hrl2⟩ : ∃ rl, Hid ((rowF (levL l l.length) j).length = rl) := ⟨_, Lib.hid rfl⟩
          rw [hrl2.out] at p5 hOn hvn
          have HVN := Lib.hid hvn
          have HOn := Lib.hid hOn
          have HJV := Lib.hid hjv
          have k5 : (j : Int) < (NR : Int) := by omega
          have k6 : (0 : Int) ≤ (j : Int) := by omega
          clear hvn hOn hcell hfz
          have HSRT := Lib.hid (HSAID.out p A l c w.heap.size (w1.heap.size + 1) wr H (.slice An rl cn) (rowF (levL l l.length) j) HOn.out (fun i hi => by unfold rowF at hi; have := List.mem_range.1 (List.mem_filter.1 hi).1; rw [HLL.out] at this; exact this) (by have := rowF_len (levL l l.length) j; rw [HLL.out] at this; omega) c1r (by omega) (hr.below' (hBw.trans (hB2.mono hBw.size)) hH) (by omega) (by omega) (fun k hk => by have := HH.out k hk; omega) hl)
          go_wp2_with (first | (go_at_call 57; refine HSRT.out.mono ?_; rintro e w5 ⟨rfl, d, hdp, hds, hdo, hdg⟩) | fail)
          go_roundw
          case rel =>
            have hjv := HJV.out
            have hd : d = rowS p l (levL l l.length) j := row_sorted (fun i hi => ⟨l[i].b.toNat, by have := HH.out i hi; omega, by rw [xAt_of hi]; have := HH.out i hi; omega⟩) hdp hds
            have hG3 := hG2.over hjv (d := d) (by rw [HVN.out]; exact hdo) (by rw [HVN.out]; exact hdg)
            rw [hd, mixR_set p l _ j (by rw [hNR.out]; exact hjl)] at hG3
            exact ⟨j + 1, by omega, by go_num, hG3, hB2.grown hdg (by omega) (fun k hk => by have := (World.ownsRow.lt HOn.out k hk).1; omega)⟩
          case measure => simp [intOf]; omega
        · have hjN : j = NR := by omega
          subst hjN
          have e := mixR_all p l (levL l l.length)
          rw [hNR.out] at e
          rw [e] at hG2
          clear e
          go_wp2_with fail
          go_ret2
          exact ⟨_, vs, rfl, by rw [hNR.out]; exact hG2.base (by omega), hBw.trans (hB2.mono hBw.size)⟩
end Go.Proofs.YtoccplfnjammjaaGreatDoor
