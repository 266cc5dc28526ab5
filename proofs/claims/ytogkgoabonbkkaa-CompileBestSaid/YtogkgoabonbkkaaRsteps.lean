/- torchonref15.steps. -/
import Derived.Test.YtogkgoabonbkkaaApp
set_option linter.unusedSimpArgs false
set_option linter.unusedVariables false
namespace Go.Proofs.Ytogkgoabonbkkaa
open Go Go.RowKit Tor

/-- the least of the places below k from which most can be made -/
def bestUpto (f : Nat → Nat) : Nat → Nat
  | 0 => 0
  | k + 1 => if f (bestUpto f k) < f k then k else bestUpto f k
theorem bestUpto_le (f : Nat → Nat) : ∀ k, bestUpto f k ≤ k
  | 0 => Nat.le_refl _
  | k + 1 => by unfold bestUpto; have := bestUpto_le f k; split <;> omega

/-- the instructions in the order of a sheet, hands at a place -/
def rst (p s : Int) : List Tri → Int → List Tri
  | [], _ => []
  | x :: r, h => if heldB h s x.b = true then stepOf x :: rst p s r h
    else ⟨1, bestUpto (fun h : Nat => runN (x :: r) h s) (p - s + 1).toNat, .empty⟩ :: stepOf x :: rst p s r (bestUpto (fun h : Nat => runN (x :: r) h s) (p - s + 1).toNat)

theorem rst_held {p s h : Int} {l : List Tri} {i : Nat} (hi : i < l.length) (hh : heldB h s l[i].b = true) : rst p s (l.drop i) h = stepOf l[i] :: rst p s (l.drop (i + 1)) h := by
  rw [List.drop_eq_getElem_cons hi, rst, if_pos hh]
theorem rst_reach {p s h : Int} {l : List Tri} {i b : Nat} (hi : i < l.length) (hh : heldB h s l[i].b = false) (hb : b = bestUpto (fun h : Nat => runN (l.drop i) h s) (p - s + 1).toNat) :
    rst p s (l.drop i) h = ⟨1, b, .empty⟩ :: stepOf l[i] :: rst p s (l.drop (i + 1)) b := by
  subst hb
  rw [List.drop_eq_getElem_cons hi, rst, if_neg (by simp [hh])]
theorem rst_end {p s h : Int} {l : List Tri} {i : Nat} (hi : ¬ i < l.length) : rst p s (l.drop i) h = [] := by
  rw [List.drop_of_length_le (by omega)]; rfl

theorem run_ex (p : Int) (A : Option Addr) (l : List Tri) (c : Nat) (i : Nat) (h s : Int) (w : World) (g : Ex w) (H : Nat) (hr : RdT w H A l) (hH : H ≤ w.heap.size)
    (hb : ∀ (k : Nat) (hk : k < l.length), 0 ≤ l[k].b ∧ l[k].b ≤ 100) (hl : l.length ≤ 1000000) (b1 : -1000 ≤ h) (b2 : h ≤ 1000) (b3 : -1000 ≤ s) (b4 : s ≤ 1000) (hi : i ≤ l.length) :
    Calls Try.prog 76 #[.agg #[.int .i64 p, .slice A l.length c], .int .i64 i, .int .i64 h, .int .i64 s] g.w (fun e w'' => e = .returned (.int .i64 (runN (l.drop i) h s)) ∧ ∃ g' : Ex w, w'' = g'.w) :=
  calls_ex (run_any p A l c i h s g.w H (hr.below' g.h hH) (Nat.le_trans hH g.h.size) hb hl b1 b2 b3 b4 hi)

set_option maxRecDepth 100000 in
set_option maxHeartbeats 2000000 in
theorem rsteps_any (p : Int) (A : Option Addr) (l : List Tri) (c : Nat) (s : Int) (w : World) (H : Nat) (hr : RdT w H A l) (hH : H ≤ w.heap.size)
    (hb : ∀ (k : Nat) (hk : k < l.length), 0 ≤ l[k].b ∧ l[k].b ≤ 100) (hl : l.length ≤ 1000) (b1 : 2 ≤ s) (b2 : s ≤ p) (b3 : p ≤ 24) :
    Calls Try.prog 54 #[.agg #[.int .i64 p, .slice A l.length c], .int .i64 s] w fun e w' => ∃ v, e = .returned v ∧ Own 3 Tri.enc w' w.heap.size 63 v (rst p s l (-1)) ∧ Below w.heap.size w w' := by
  obtain ⟨i0, hi0, hz0, hz1, hz2⟩ := info_parts infoStep
  have HH := Lib.hid hb
  clear hb
  go_enter Try.func54, Try.ntmps54
  go_wp2
  go_loopw [5, 6, 7] (fun v h k wr => ∃ (j : Nat) (done : List Tri) (hands : Int), j ≤ l.length ∧ k = .int .i64 j ∧ h = .int .i64 hands ∧ -1 ≤ hands ∧ hands ≤ 24 ∧ Hid (rst p s l (-1) = done ++ rst p s (l.drop j) hands) ∧ done.length ≤ 2 * j ∧
      Own 3 Tri.enc wr (w.heap.size + 1) 63 v done ∧ Below (w.heap.size + 1) (w.alloc (.cells #[.int .i64 p, .slice A l.length c] 24)) wr) (fun _ _ k _ => l.length - (intOf k).toNat)
  case atStart => exact ⟨0, [], -1, Nat.zero_le _, rfl, rfl, by omega, by omega, by simp [Hid], by simp, Own.nil _ _ _, Below.refl _ _⟩
  case round =>
    obtain ⟨j, done, hands, hj, rfl, rfl, hh1, hh2, hinv, hdl, hown, hB⟩ := hrel
    have hN0 := box_cell hB 0 (.int .i64 p) rfl
    have hN1 := box_cell hB 1 (.slice A l.length c) rfl
    have hNs := box_lt hB
    by_cases hlt : j < l.length
    · have hrr := hr.below' (box_below hB) hH
      obtain ⟨b, o, rfl, hb0, h0, h1, h2⟩ := hrr.tri hlt
      have hbd := HH.out j hlt
      have hbb := lt_of_cell h0
      cases hheld : heldB hands s l[j].b
      · have HD := Lib.hid hheld
        clear hheld
        go_wp2_with (go_at_call 69; refine (held_any _ _ _ _ (by omega) (by omega) (by omega) (by omega) (by omega) (by omega)).mono ?_; rintro e w1 ⟨rfl, hB1⟩; rw [HD.out])
        have hN0' := (hB1.cell (p := ⟨w.heap.size, _, none⟩) hNs).trans hN0
        have hN1' := (hB1.cell (p := ⟨w.heap.size, _, none⟩) hNs).trans hN1
        have hC : Below (w.heap.size + 1) (w.alloc (.cells #[.int .i64 p, .slice (some ⟨b, o, none⟩) l.length c] 24)) w1 := hB.trans (hB1.mono (by omega))
        have hown1 := hown.below hB1
        clear hN0 hN1 h0 h1 h2 hrr hNs hB hown hB1
        obtain ⟨wo, rfl⟩ : ∃ wo : World, wo = wr := ⟨_, rfl⟩
        go_loopw [8, 9] (fun bst k wr => ∃ (m : Nat), (m : Int) ≤ p - s + 1 ∧ k = .int .i64 m ∧ bst = .int .i64 (bestUpto (fun h : Nat => runN (l.drop j) h s) m) ∧ Below w1.heap.size w1 wr) (fun _ k _ => (p - s + 1).toNat - (intOf k).toNat)
        case atStart => exact ⟨0, by omega, rfl, rfl, Below.refl _ _⟩
        case round =>
          obtain ⟨m, hm, rfl, rfl, hBm⟩ := hrel
          have hble := bestUpto_le (fun h : Nat => runN (l.drop j) h s) m
          have hN2 := (hBm.cell (p := ⟨w.heap.size, _, none⟩) (box_lt hC)).trans hN0'
          have hN3 := (hBm.cell (p := ⟨w.heap.size, _, none⟩) (box_lt hC)).trans hN1'
          have hNs := box_lt hC
          have hNz := hBm.size
          have hN4 : w.heap.size < wr.heap.size := by omega
          by_cases hmp : (m : Int) ≤ p - s
          · have hrm := hr.below' ((box_below hC).trans (hBm.mono (Nat.le_of_lt hNs))) hH
            go_wp2
            refine wp_region_ex (by kernel_rfl) (by kernel_rfl) ?_
            repeat (go_big_quiet_step ((go_at_call 76; exact run_ex p _ l c j _ s _ _ H hrm (by omega) HH.out (by omega) (by omega) (by omega) (by omega) (by omega) (by omega))))
            refine wpQuiet_nil ?_
            intro _ hw'
            obtain ⟨g, hw''⟩ := hw'
            subst hw''
            have hq := g.h
            go_wp2
            all_goals go_roundw
            all_goals first
              | (case rel => exact ⟨m + 1, by omega, by go_num, (by rw [bestUpto, if_pos (by assumption)]), hBm.trans (hq.mono hNz)⟩)
              | (case rel => exact ⟨m + 1, by omega, by go_num, (by rw [bestUpto, if_neg (by assumption)]), hBm.trans (hq.mono hNz)⟩)
              | (case measure => simp [intOf]; omega)
          · have hbu : bestUpto (fun h : Nat => runN (l.drop j) h s) m ≤ 24 := by omega
            obtain ⟨bu, HBU⟩ : ∃ bu, Hid (bu = bestUpto (fun h : Nat => runN (l.drop j) h s) m) := ⟨_, rfl⟩
            have hbu' : bu ≤ 24 := by rw [HBU.out]; exact hbu
            rw [← HBU.out]
            have HM := Lib.hid (show (p - s + 1).toNat = m by omega)
            have HI := Lib.hid (rst_reach (p := p) (h := hands) (b := bu) hlt HD.out (by rw [HBU.out, HM.out]))
            have hown2 := hown1.below hBm
            have hC2 := hC.trans (hBm.mono hNs)
            clear hble hown1 hbu hN3 hBm
            go_wp2_with (first
              | (at_builtin; refine wpList_append_tri rfl (.tmp 48) (.tmp 51) _ rfl (w.heap.size + 1) _ i0 _ Try.underlying27 hi0 hz0 hz1 hz2 rfl _ done rfl (hown2.alloc _) wr.heap.size ⟨1, bu, .empty⟩ rfl (World.cell?_alloc_new _ _ _ 0) (World.cell?_alloc_new _ _ _ 1) (World.cell?_alloc_new _ _ _ 2) (by omega) (by simp; omega) ?_; intro v' w3 hown3 hg; have hC3 := (hown2.alloc _).grown (hC2.alloc (by omega) _) hg (by simp; omega); have kN1 := box_cell hC3 1 (.slice (some ⟨b, o, none⟩) l.length c) rfl; obtain ⟨kb, k0, k1, k2⟩ := (hr.below' (box_below hC3) hH).triAt hlt)
              | (go_at_call 43; refine (rstep_any _ _).mono ?_; rintro e w2 ⟨rfl, hB2⟩)
              | (at_builtin; refine wpList_append_tri rfl (.tmp 53) (.tmp 60) _ rfl (w.heap.size + 1) _ i0 _ Try.underlying27 hi0 hz0 hz1 hz2 rfl _ (done ++ [⟨1, bu, .empty⟩]) rfl (((hown3.below hB2)).alloc _) w2.heap.size (stepOf l[j]) rfl (World.cell?_alloc_new _ _ _ 0) (World.cell?_alloc_new _ _ _ 1) (World.cell?_alloc_new _ _ _ 2) (by simp; omega) (by have := box_lt hC3; have := hB2.size; simp; omega) ?_; intro v2 w4 hown4 hg2))
            go_roundw
            case rel => exact ⟨j + 1, done ++ [⟨1, bu, .empty⟩, stepOf l[j]], bu, by omega, by go_num, rfl, by omega, by omega, by rw [Hid, hinv.out, HI.out]; simp, by simp; omega, by simpa using hown4, (((hown3.below hB2)).alloc _).grown ((hC3.trans (hB2.mono (by have := box_lt hC3; omega))).alloc (by have := box_lt hC3; have := hB2.size; omega) _) hg2 (by have := box_lt hC3; have := hB2.size; simp; omega)⟩
            case measure => simp [intOf]; omega
      · have HD := Lib.hid hheld
        clear hheld
        have HI := Lib.hid (rst_held (p := p) (h := hands) hlt HD.out)
        go_wp2_with (first
          | (go_at_call 69; refine (held_any _ _ _ _ (by omega) (by omega) (by omega) (by omega) (by omega) (by omega)).mono ?_; rintro e w1 ⟨rfl, hB1⟩; rw [HD.out]; have k0 := (hB1.cell (p := ⟨b, _, none⟩) hbb).trans h0; have k1 := (hB1.cell (p := ⟨b, _, none⟩) hbb).trans h1; have k2 := (hB1.cell (p := ⟨b, _, none⟩) hbb).trans h2; have kN1 := (hB1.cell (p := ⟨w.heap.size, _, none⟩) hNs).trans hN1)
          | (go_at_call 43; refine (rstep_any _ _).mono ?_; rintro e w2 ⟨rfl, hB2⟩)
          | (at_builtin; refine wpList_append_tri rfl (.tmp 53) (.tmp 60) _ rfl (w.heap.size + 1) _ i0 _ Try.underlying27 hi0 hz0 hz1 hz2 rfl _ done rfl (((hown.below hB1).below hB2).alloc _) w2.heap.size (stepOf l[j]) rfl (World.cell?_alloc_new _ _ _ 0) (World.cell?_alloc_new _ _ _ 1) (World.cell?_alloc_new _ _ _ 2) (by omega) (by have := hB1.size; have := hB2.size; simp; omega) ?_; intro v' w3 hown' hg))
        go_roundw
        case rel => exact ⟨j + 1, done ++ [stepOf l[j]], hands, by omega, by go_num, rfl, hh1, hh2, by rw [Hid, hinv.out, HI.out]; simp, by simp; omega, hown', ((hB.trans (hB1.mono (by omega))).trans (hB2.mono (by have := hB1.size; omega))).alloc (by have := hB1.size; have := hB2.size; omega) _ |> fun hZ => (((hown.below hB1).below hB2).alloc _).grown hZ hg (by have := hB1.size; have := hB2.size; simp; omega)⟩
        case measure => simp [intOf]; omega
    · go_wp2
      go_ret
      exact ⟨_, rfl, by rw [hinv.out, rst_end hlt]; simpa using hown.base (Nat.le_succ _), box_below hB⟩
end Go.Proofs.Ytogkgoabonbkkaa
