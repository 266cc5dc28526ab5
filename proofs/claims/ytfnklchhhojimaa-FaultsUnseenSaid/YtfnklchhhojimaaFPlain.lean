/- faults: Plain. -/
import Derived.Test.YtfnklchhhojimaaPlainM
import Derived.Test.YtfnklchhhojimaaRed
import Derived.Test.YtfnklchhhojimaaTRow
set_option linter.unusedSimpArgs false
set_option linter.unusedVariables false
namespace Go.Proofs.Ytfnklchhhojimaa
open Go Go.RowKit Tor

theorem plainL_snoc_in {l : List Tri} {x : Tri} (h : (redW x.s).size ≠ 0 ∨ x.a = 2) : plainL (l ++ [x]) = plainL l ++ [⟨x.a, x.b, redW x.s⟩] := by rw [plainL_snoc, if_pos h]
theorem plainL_snoc_out {l : List Tri} {x : Tri} (h : ¬ ((redW x.s).size ≠ 0 ∨ x.a = 2)) : plainL (l ++ [x]) = plainL l := by rw [plainL_snoc, if_neg h, List.append_nil]
theorem size_empty {s : ByteArray} : s.size = 0 ↔ s = ⟨#[]⟩ := by
  constructor
  · intro h
    have : s.data = #[] := Array.eq_empty_of_size_eq_zero h
    exact ByteArray.ext this
  · rintro rfl; rfl

theorem alloc_at {W : World} {cs : Array Value} {T : TypeId} {g j : Nat} {v : Value} (hg : g = W.heap.size) (hv : cs[j]? = some v) : (W.alloc (.cells cs T)).cell? ⟨g, j, none⟩ = some v := by
  subst hg; exact (Blk.new W T cs).cell j v hv

/-- what Plain returns -/
def PlainPost (p : Int) (L : List Tri) (n : Int) (w : World) (e : Ending) (w' : World) : Prop :=
  ∃ v, e = .returned (.tuple #[.agg #[.int .i64 p, v], .int .i64 n]) ∧ Own 3 Tri.enc w' w.heap.size 54 v L ∧ Below w.heap.size w w'

/-- Plain, plainly -/
def plainR (p : Int) (l : List Tri) : Int × List Tri × Int := if sheetE p l ≠ 0 then (0, [], sheetE p l) else (p, plainL l, 0)


set_option maxRecDepth 100000 in
set_option maxHeartbeats 4000000 in
theorem plain_any (p : Int) (A : Option Addr) (l : List Tri) (c : Nat) (w : World) (H : Nat) (hr : RdT w H A l) (hH : H ≤ w.heap.size)
    (hw : ∀ (k : Nat) (hk : k < l.length), l[k].s.size ≤ 9223372036854775807) (hl : l.length ≤ 1000000) :
    Calls Try.prog 25 #[.agg #[.int .i64 p, .slice A l.length c]] w (PlainPost (plainR p l).1 (plainR p l).2.1 (plainR p l).2.2 w) := by
  obtain ⟨i0, hi0, hz0', hz1', hz2'⟩ := info_parts infoWork
  have kS := (Blk.new w 35 #[.int .i64 p, .slice A l.length c]).alloc (.cells #[.int .i64 0, .slice none 0 0] 35)
  have kO := Blk.new (w.alloc (.cells #[.int .i64 p, .slice A l.length c] 35)) 35 #[.int .i64 0, .slice none 0 0]
  rw [World.size_alloc] at kO
  have hBB : Below w.heap.size w ((w.alloc (.cells #[.int .i64 p, .slice A l.length c] 35)).alloc (.cells #[.int .i64 0, .slice none 0 0] 35)) := by (repeat' first | exact Below.refl _ _ | apply Below.drew | (refine Below.setCells ?_ _ _ ?_) | (refine Below.setCell ?_ ?_ _) | (refine Below.alloc ?_ ?_ _) | (simp; done) | (simp; omega))
  have HC := Lib.hid (sheet_any p A l c _ H (hr.below' hBB hH) (Nat.le_trans hH hBB.size) hw (by omega))
  by_cases hz : sheetE p l = 0
  rotate_left
  · have hA : Hid (plainR p l = (0, [], sheetE p l)) := by unfold plainR; rw [if_pos hz]; exact Lib.hid rfl
    rw [hA.out]
    obtain ⟨e, he⟩ : ∃ e, Hid (sheetE p l = e) := ⟨_, Lib.hid rfl⟩
    rw [he.out] at HC hz ⊢
    clear hA
    have y1 : (e == 0) = false := by simpa using hz
    have y2 : (e != 0) = true := by simpa using hz
    clear hz
    go_enter Try.func25, Try.ntmps25
    have c0 := kS.cell 0 (.int .i64 p) rfl
    have c1 := kS.cell 1 (.slice A l.length c) rfl
    go_wp2_with (first
      | (go_at_call 60; refine HC.out.mono ?_; rintro e w1 ⟨rfl, hB1⟩
         have kO1 := kO.below' hB1
         have z0 := kO1.cell 0 (.int .i64 0) rfl
         have z1 := kO1.cell 1 (.slice none 0 0) rfl
         have f0 := kO1.frozen 0
         have f1 := kO1.frozen 1
         have n1 := kO1.lt)
      | fail)
    (try simp only [Exit.inBlock, Exit.then])
    refine sheet_ret2 rfl (g := w.heap.size + 1) (x := .int .i64 0) (y := .slice none 0 0) rfl (by simpa using (kO1.set_ 0 (.int .i64 0)).set_ 1 (.slice none 0 0)) rfl ?_
    refine ⟨_, rfl, Own.nil _ _ _, ?_⟩
    have hBF := hBB.trans (hB1.mono hBB.size)
    (repeat' first | assumption | exact Below.refl _ _ | apply Below.drew | (refine Below.setCells ?_ _ _ ?_) | (refine Below.setCell ?_ ?_ _) | (refine Below.alloc ?_ ?_ _) | (simp; done) | (simp; omega))
  · have hA : Hid (plainR p l = (p, plainL l, 0)) := by unfold plainR; rw [if_neg (by simpa using hz)]; exact Lib.hid rfl
    rw [hA.out]
    have hwk := wok_of hz
    have hp24 : l.length ≤ 400 := by
      unfold sheetE at hz
      split at hz
      · cases hz
      · omega
    have hW0 : Hid (∀ (k : Nat) (hk : k < l.length), wordE l[k].s = 0) := Lib.hid (fun k hk => (hwk _ (List.getElem_mem hk)).w)
    rw [hz] at HC
    have HW := Lib.hid hw
    clear hA hz hwk hw
    obtain ⟨wo, rfl⟩ : ∃ wo : World, wo = w := ⟨_, rfl⟩
    go_enter Try.func25, Try.ntmps25
    have c0 := kS.cell 0 (.int .i64 p) rfl
    have c1 := kS.cell 1 (.slice A l.length c) rfl
    go_wp2_with (first
      | (go_at_call 60; refine HC.out.mono ?_; rintro e w1 ⟨rfl, hB1⟩
         have kO1 := kO.below' hB1
         have kS1 := kS.below' hB1
         have s0 := kS1.cell 0 (.int .i64 p) rfl
         have s1 := kS1.cell 1 (.slice A l.length c) rfl
         have n1 := kO1.lt
         have n2 := kS1.lt)
      | fail)
    have hBw := hBB.trans (hB1.mono hBB.size)
    have hzw := hBw.size
    have hne0 : ∀ {W : World} {v : Value} {L : List Tri}, Own 3 Tri.enc W (w1.heap.size + 1) 54 v L → some (wo.heap.size + 1) ≠ v.ownBlock := fun h e => by have := (World.ownsRow.lt h _ e.symm).1; omega
    go_loopw [20] (fun i wr => ∃ (k : Nat) (v : Value), k ≤ l.length ∧ i = .int .i64 k ∧ Blk wr w1.heap.size 35 #[.int .i64 p, v] ∧ Own 3 Tri.enc wr (w1.heap.size + 1) 54 v (plainL (l.take k)) ∧ Below w1.heap.size w1 wr) (fun i _ => l.length - (intOf i).toNat)
    case atStart => exact ⟨0, .slice none 0 0, Nat.zero_le _, rfl, Blk.new _ _ _, Own.nil _ _ _, by (repeat' first | exact Below.refl _ _ | apply Below.drew | (refine Below.setCells ?_ _ _ ?_) | (refine Below.setCell ?_ ?_ _) | (refine Below.alloc ?_ ?_ _) | (simp; done) | (simp; omega))⟩
    case round =>
      obtain ⟨k, v, hk, rfl, hb, hown, hB⟩ := hrel
      have hzr := hb.lt
      have hBr : Below wo.heap.size wo wr := hBw.trans (hB.mono hzw)
      by_cases hlt : k < l.length
      · obtain ⟨b, o, rfl, hb0, h0, h1, h2⟩ := (hr.below' hBr hH).tri hlt
        have hw0 := hW0.out k hlt
        have HWk := Lib.hid (HW.out k hlt)
        obtain ⟨R, hR⟩ : ∃ R, Hid (redW l[k].s = R) := ⟨_, Lib.hid rfl⟩
        have HRC : Hid (∀ w', Calls Try.prog 61 #[.string l[k].s] w' fun e w'' => e = .returned (.tuple #[.string R, .int .i64 0]) ∧ Below w'.heap.size w' w'') := Lib.hid (fun w' => by
          have := reduce_any l[k].s w' HWk.out
          rw [hw0, if_pos rfl, hR.out] at this; exact this)
        have k0 : (k : Int) < (l.length : Int) := by omega
        obtain ⟨A2, c2, rfl, _, _⟩ := Own.rd tri_len hown
        have hsn := take_snoc l k hlt
        have hlp := plainL_len (l.take k)
        rw [List.length_take] at hlp
        have kB0 := Blk.new wr 54 #[.int .i64 l[k].a, .int .i64 l[k].b, .string l[k].s]
        have hbA := hb.alloc (.cells #[.int .i64 l[k].a, .int .i64 l[k].b, .string l[k].s] 54)
        have hoA := hown.alloc (.cells #[.int .i64 l[k].a, .int .i64 l[k].b, .string l[k].s] 54)
        have hBA := hB.alloc hB.size (.cells #[.int .i64 l[k].a, .int .i64 l[k].b, .string l[k].s] 54)
        have hne : some wr.heap.size ≠ (Value.slice A2 (plainL (l.take k)).length c2).ownBlock := fun e => by have := (World.ownsRow.lt hown _ e.symm).2; omega
        have hne1 : some w1.heap.size ≠ (Value.slice A2 (plainL (l.take k)).length c2).ownBlock := fun e => by have := (World.ownsRow.lt hown _ e.symm).1; omega
        by_cases hin : R.size ≠ 0 ∨ l[k].a = 2
        · have hpl : Hid (plainL (l.take (k + 1)) = plainL (l.take k) ++ [⟨l[k].a, l[k].b, R⟩]) := by
            rw [Hid, hsn, plainL_snoc_in (by rw [hR.out]; exact hin), hR.out]
          have hlen9 : (plainL (l.take k)).length ≤ 1000000 := by omega
          rcases (show R.size ≠ 0 ∨ (R.size = 0 ∧ l[k].a = 2) by omega) with hin | ⟨hin, hin2⟩
          · skip
            have b1 : R.toList.isEmpty = false := by
              have := snil R
              cases h : R.toList with
              | nil => exact absurd (this.1 h) hin
              | cons _ _ => rfl
            clear hin
            go_wp2_with (first
              | (go_at_call 61; refine (HRC.out _).mono ?_; rintro e w3 ⟨rfl, hB3⟩
                 have kB3 := kB0.below' hB3
                 have x0 := kB3.cell 0 (.int .i64 l[k].a) rfl
                 have x1 := kB3.cell 1 (.int .i64 l[k].b) rfl
                 have x2 := kB3.cell 2 (.string l[k].s) rfl
                 have y2 := kB3.frozen 2
                 have xl := kB3.lt
                 have hb3 := (hbA.below' hB3)
                 have v1 := hb3.cell 1 (.slice A2 (plainL (l.take k)).length c2) rfl
                 have vl := hb3.lt
                 have hown3 := Own.far' (hoA.below hB3) (p := ⟨wr.heap.size, 2, none⟩) hne (.string R)
                 have hb3' := hb3.far (p := ⟨wr.heap.size, 2, none⟩) (by show w1.heap.size ≠ wr.heap.size; omega) (.string R)
                 have hB3' := (hBA.trans (hB3.mono hBA.size)).setCell (p := ⟨wr.heap.size, 2, none⟩) hB.size (.string R))
              | (at_builtin; refine wpList_append_tri rfl (.tmp 40) (.tmp 42) _ rfl (w1.heap.size + 1) _ i0 _ Try.underlying33 hi0 hz0' hz1' hz2' rfl _ (plainL (l.take k)) rfl (hown3.alloc _) w3.heap.size ⟨l[k].a, l[k].b, R⟩ rfl (alloc_at (by simp) rfl) (alloc_at (by simp) rfl) (alloc_at (by simp) rfl) hlen9 (by simp; omega) ?_; intro v8 w8 hown8 hg8
                 obtain ⟨Av, cv, rfl, _, _⟩ := Own.rd tri_len hown8
                 have hb8 := Blk.grown (hb3'.alloc _) hg8 hne1
                 have d1 := hb8.cell 1 (.slice A2 (plainL (l.take k)).length c2) rfl
                 have f8 := hb8.frozen 1
                 have l8 := hb8.lt)
              | fail)
            go_roundw
            case rel =>
              refine ⟨k + 1, _, by omega, by go_num, hb8.set_ 1 _, ?_, ?_⟩
              · rw [hpl.out]
                have h9 := Own.far hown8 (p := ⟨w1.heap.size, 1, none⟩) (by show w1.heap.size < w1.heap.size + 1; omega) (.slice Av ((plainL (l.take k)).length + 1) cv)
                rw [List.length_append] at h9
                exact h9
              · exact ((hB3'.alloc (by simp; omega) _).grown hg8 (by simp; omega) (fun q hq => by have := (World.ownsRow.lt hown q hq).1; omega)).setCell (p := ⟨w1.heap.size, 1, none⟩) (Nat.le_refl _) _
            case measure => simp [intOf]; omega
          · skip
            have b1 : R.toList.isEmpty = true := by rw [List.isEmpty_iff, snil]; exact hin
            have b2 : (l[k].a == 2) = true := by rw [hin2]; rfl
            clear hin hin2
            go_wp2_with (first
              | (go_at_call 61; refine (HRC.out _).mono ?_; rintro e w3 ⟨rfl, hB3⟩
                 have kB3 := kB0.below' hB3
                 have x0 := kB3.cell 0 (.int .i64 l[k].a) rfl
                 have x1 := kB3.cell 1 (.int .i64 l[k].b) rfl
                 have x2 := kB3.cell 2 (.string l[k].s) rfl
                 have y2 := kB3.frozen 2
                 have xl := kB3.lt
                 have hb3 := (hbA.below' hB3)
                 have v1 := hb3.cell 1 (.slice A2 (plainL (l.take k)).length c2) rfl
                 have vl := hb3.lt
                 have hown3 := Own.far' (hoA.below hB3) (p := ⟨wr.heap.size, 2, none⟩) hne (.string R)
                 have hb3' := hb3.far (p := ⟨wr.heap.size, 2, none⟩) (by show w1.heap.size ≠ wr.heap.size; omega) (.string R)
                 have hB3' := (hBA.trans (hB3.mono hBA.size)).setCell (p := ⟨wr.heap.size, 2, none⟩) hB.size (.string R))
              | (at_builtin; refine wpList_append_tri rfl (.tmp 40) (.tmp 42) _ rfl (w1.heap.size + 1) _ i0 _ Try.underlying33 hi0 hz0' hz1' hz2' rfl _ (plainL (l.take k)) rfl (hown3.alloc _) w3.heap.size ⟨l[k].a, l[k].b, R⟩ rfl (alloc_at (by simp) rfl) (alloc_at (by simp) rfl) (alloc_at (by simp) rfl) hlen9 (by simp; omega) ?_; intro v8 w8 hown8 hg8
                 obtain ⟨Av, cv, rfl, _, _⟩ := Own.rd tri_len hown8
                 have hb8 := Blk.grown (hb3'.alloc _) hg8 hne1
                 have d1 := hb8.cell 1 (.slice A2 (plainL (l.take k)).length c2) rfl
                 have f8 := hb8.frozen 1
                 have l8 := hb8.lt)
              | fail)
            go_roundw
            case rel =>
              refine ⟨k + 1, _, by omega, by go_num, hb8.set_ 1 _, ?_, ?_⟩
              · rw [hpl.out]
                have h9 := Own.far hown8 (p := ⟨w1.heap.size, 1, none⟩) (by show w1.heap.size < w1.heap.size + 1; omega) (.slice Av ((plainL (l.take k)).length + 1) cv)
                rw [List.length_append] at h9
                exact h9
              · exact ((hB3'.alloc (by simp; omega) _).grown hg8 (by simp; omega) (fun q hq => by have := (World.ownsRow.lt hown q hq).1; omega)).setCell (p := ⟨w1.heap.size, 1, none⟩) (Nat.le_refl _) _
            case measure => simp [intOf]; omega
        · have hpl : Hid (plainL (l.take (k + 1)) = plainL (l.take k)) := by
            rw [Hid, hsn, plainL_snoc_out (by rw [hR.out]; exact hin)]
          have b1 : R.toList.isEmpty = true := by rw [List.isEmpty_iff, snil]; omega
          have b2 : (l[k].a == 2) = false := by simp; omega
          clear hin
          go_wp2_with (first
            | (go_at_call 61; refine (HRC.out _).mono ?_; rintro e w3 ⟨rfl, hB3⟩
               have kB3 := kB0.below' hB3
               have x0 := kB3.cell 0 (.int .i64 l[k].a) rfl
               have x1 := kB3.cell 1 (.int .i64 l[k].b) rfl
               have x2 := kB3.cell 2 (.string l[k].s) rfl
               have y2 := kB3.frozen 2
               have xl := kB3.lt)
            | fail)
          go_roundw
          case rel =>
            refine ⟨k + 1, _, by omega, by go_num, (hbA.below' hB3).far (p := ⟨wr.heap.size, 2, none⟩) (by show w1.heap.size ≠ wr.heap.size; omega) _, ?_, ?_⟩
            · rw [hpl.out]; exact Own.far' (hoA.below hB3) (p := ⟨wr.heap.size, 2, none⟩) hne _
            · exact (hBA.trans (hB3.mono hBA.size)).setCell (p := ⟨wr.heap.size, 2, none⟩) hB.size _
          case measure => simp [intOf]; omega
      · have hk2 : k = l.length := by omega
        rw [hk2, List.take_of_length_le (Nat.le_refl _)] at hown
        obtain ⟨A2, c2, rfl, _, _⟩ := Own.rd tri_len hown
        have z0 := hb.cell 0 (.int .i64 p) rfl
        have z1 := hb.cell 1 (.slice A2 (plainL l).length c2) rfl
        have kOr : Blk wr (wo.heap.size + 1) 35 #[.int .i64 0, .slice none 0 0] := kO1.below hB n1
        have u0 := kOr.cell 0 (.int .i64 0) rfl
        have u1 := kOr.cell 1 (.slice none 0 0) rfl
        have f0 := kOr.frozen 0
        have f1 := kOr.frozen 1
        have ul := kOr.lt
        go_wp2_with fail
        (try simp only [Exit.inBlock, Exit.then])
        refine sheet_ret2 rfl (g := wo.heap.size + 1) (x := .int .i64 p) (y := .slice A2 (plainL l).length c2) rfl (by simpa using (kOr.set_ 0 (.int .i64 p)).set_ 1 (.slice A2 (plainL l).length c2)) rfl ?_
        refine ⟨_, rfl, ?_, ?_⟩
        · exact Own.far' (Own.far' (Own.base hown (Nat.le_trans hzw (Nat.le_succ _))) (p := ⟨wo.heap.size + 1, 0, none⟩) (hne0 hown) _) (p := ⟨wo.heap.size + 1, 1, none⟩) (hne0 hown) _
        · exact (hBr.setCell (p := ⟨wo.heap.size + 1, 0, none⟩) (by show wo.heap.size ≤ wo.heap.size + 1; omega) _).setCell (p := ⟨wo.heap.size + 1, 1, none⟩) (by show wo.heap.size ≤ wo.heap.size + 1; omega) _
end Go.Proofs.Ytfnklchhhojimaa
