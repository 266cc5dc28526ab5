/- compile.Best. -/
import Derived.Test.YtogkgoabonbkkaaDoorBestM
import Derived.Deep.LoopGhost
import Derived.Deep.DeepCutAuto
set_option linter.unusedSimpArgs false
set_option linter.unusedVariables false
namespace Go.Proofs.YtogkgoabonbkkaaDoor
open Go Go.RowKit Tor Go.Maps

theorem RdN.rdf {w : World} {B : Nat} {A : Option Addr} {bf : List Nat} (h : RdN w B A bf) : RdF w A bf := fun hl => by
  obtain ⟨b, o, e, _, hc⟩ := h hl
  exact ⟨b, o, e, fun k x hx => by simpa using hc k x hx 0 _ rfl⟩
theorem RdF.same {w w' : World} {A : Option Addr} {bf : List Nat} {T : Nat → Prop} (h : RdF w A bf) (hs : Same T w w') (hT : ∀ b o v, A = some ⟨b, o, none⟩ → w.cell? ⟨b, o, none⟩ = some v → T b) : RdF w' A bf := fun hl => by
  obtain ⟨b, o, e, hc⟩ := h hl
  obtain ⟨x, r, hx⟩ := List.exists_cons_of_ne_nil hl
  have h0 := hc 0 x (by rw [hx]; rfl)
  exact ⟨b, o, e, fun k x hx => (hs.cell (p := ⟨b, o + k, none⟩) (hT b o _ e h0)).trans (hc k x hx)⟩
theorem Own.rdfb {w : World} {base : Nat} {e : TypeId} {v : Value} {l : List Nat} (h : Own 1 nenc w base e v l) :
    ∃ A c, v = .slice A l.length c ∧ RdF w A l ∧ ∀ b o, A = some ⟨b, o, none⟩ → base ≤ b ∧ b < w.heap.size := by
  obtain ⟨A, c, hv, _, hd⟩ := Own.rd nenc_len h
  exact ⟨A, c, hv, RdN.rdf hd, fun b o e' => World.ownsRow.lt h b (by rw [hv, e']; rfl)⟩
theorem RdF.at {w : World} {A : Option Addr} {bf : List Nat} (h : RdF w A bf) {k : Nat} (hk : k < bf.length) : ∃ b o, A = some ⟨b, o, none⟩ ∧ ∀ (j : Nat) (hj : j < bf.length), w.cell? ⟨b, o + j, none⟩ = some (.int .i64 (bf[j] : Int)) := by
  obtain ⟨b, o, e, hc⟩ := h (by intro e; subst e; simp at hk)
  exact ⟨b, o, e, fun j hj => hc j _ (List.getElem?_eq_getElem hj)⟩

theorem MapK.same {p s : Int} {l : List Tri} {bf : List Nat} {w w' : World} {mb n : Nat} {T : Nat → Prop} (h : MapK p s l bf w mb n) (hs : Same T w w') (hT : T mb) : MapK p s l bf w' mb n := by
  obtain ⟨D, ⟨es, clock, hb, r⟩, h2⟩ := h
  exact ⟨D, ⟨es, clock, (hs.block mb hT).trans hb, r⟩, h2⟩
theorem Same.of_below_T {w w' : World} {T : Nat → Prop} (h : Below w.heap.size w w') (hT : ∀ k, T k → k < w.heap.size) : Same T w w' := (Same.of_below h).mono hT
theorem Own.same {α : Type} {sz : Nat} {enc : α → List Value} {w w' : World} {base : Nat} {e : TypeId} {v : Value} {l : List α} {T : Nat → Prop} (h : Own sz enc w base e v l) (hs : Same T w w') (hT : ∀ g, v.ownBlock = some g → T g) : Own sz enc w' base e v l := by
  obtain ⟨h1, h2⟩ := h
  refine ⟨h1, ?_⟩
  rcases h2 with h2 | ⟨g, cap, cur, rfl, hg, hh, r⟩
  · exact Or.inl h2
  · exact Or.inr ⟨g, cap, cur, rfl, hg, (hs.block g (hT g rfl)).trans hh, r⟩
theorem pow10 : (11 : Nat) ^ 10 ≤ 30000000000 := by decide
theorem fewest10 (p s : Int) (l : List Tri) (bf : List Nat) (ok : PlanOk p s l bf) (pb sb mb : Nat) (A : Option Addr) (c : Nat) (Ab : Option Addr) (cb H : Nat) (d : Nat) (lo hi : Int) (w : World) (n : Nat)
    (hd : d < 2 ^ l.length) (g1 : 0 ≤ lo) (g2 : lo ≤ 24) (g3 : 0 ≤ hi) (g4 : hi ≤ 24) (hP : PlanAt w pb sb mb p s A c l Ab cb bf H) (hM : MapK p s l bf w mb n) (hn : n ≤ 100000000000000) :
    Calls Tryd.prog 48 #[.pointer (some ⟨pb, 0, none⟩), .agg #[.int .i64 d, .int .i64 lo, .int .i64 hi]] w (FewPost p s l bf d lo hi mb (n + 30000000000) w) :=
  (fewest_any p s l bf ok pb sb mb A c Ab cb H 10 d lo hi w n (Nat.le_trans (zeros_le _ _) ok.n10) hd g1 g2 g3 g4 hP hM (by have := pow10; omega)).mono fun e w' ⟨h1, h2, h3⟩ => ⟨h1, h2.mono (by have := pow10; omega), h3⟩
theorem planOk_bfL {P S : Nat} {l : List Tri} (hl : l.length ≤ 10) (b1 : 2 ≤ S) (b2 : S ≤ P) (b3 : P ≤ 24) (hb : ∀ (k : Nat) (hk : k < l.length), 0 ≤ l[k].b ∧ l[k].b ≤ (P : Int) - 2) : PlanOk P S l (bfL l) :=
  ⟨bfL_len l, hl, by omega, by omega, by omega, hb, fun k hk => by rw [bfL_len] at hk; rw [bfL_get hk]; exact bfAt_lt (by omega)⟩
theorem bsel_step {p s : Int} {l : List Tri} {bf : List Nat} {k d : Nat} {lo hi : Int} {i d2 : Nat} {lo2 hi2 : Int} (hk : 0 < k) (h : pick p s l bf d lo hi = some i) (hi' : i < l.length) (h1 : d ||| 2 ^ i = d2) (h2 : nlo s l[i] lo (joinB p s l[i] lo hi) = lo2) (h3 : nhi p s l[i] hi (joinB p s l[i] lo hi) = hi2) :
    bsel p s l bf k d lo hi = i :: bsel p s l bf (k - 1) d2 lo2 hi2 := by
  obtain ⟨g, rfl⟩ : ∃ g, k = g + 1 := ⟨k - 1, by omega⟩
  rw [bsel, h]
  simp only [xAt_of hi', h1, h2, h3]
  rfl
theorem pick_of {p s : Int} {l : List Tri} {bf : List Nat} {d : Nat} {lo hi : Int} {i : Nat} (hi' : i < l.length) (hc : cost p s l bf d lo hi i = some (few p s l bf d lo hi)) (hn : ∀ j, j < i → cost p s l bf d lo hi j ≠ some (few p s l bf d lo hi)) : pick p s l bf d lo hi = some i := by
  unfold pick
  rw [List.find?_range_eq_some]
  exact ⟨by simpa using hc, by simpa using hi', fun j hj => by simpa using hn j hj⟩
theorem zeros_zero (n : Nat) : zeros n 0 = n := by
  unfold zeros
  rw [List.filter_eq_self.2 (by simp)]
  simp
theorem zeros_none {n d : Nat} (h : zeros n d = 0 → False) : 0 < zeros n d := Nat.pos_of_ne_zero h
theorem not_full {n d : Nat} (h : 0 < zeros n d) : d ≠ 2 ^ n - 1 := fun e => by
  have : zeros n d = 0 := by
    unfold zeros
    rw [List.length_eq_zero_iff, List.filter_eq_nil_iff]
    intro i hi
    have hi' : i < n := by simpa using hi
    rw [e, Nat.testBit_two_pow_sub_one]
    simp [hi']
  omega


set_option maxRecDepth 100000 in
set_option maxHeartbeats 4000000 in
theorem cbest_any (P S : Nat) (A : Option Addr) (l : List Tri) (c : Nat) (w : World) (H : Nat) (hr : RdT w H A l) (hH : H ≤ w.heap.size)
    (hw : ∀ (k : Nat) (hk : k < l.length), l[k].s.size ≤ 9223372036854775807) (hchk : chkE P l S = 0) (hsh : sheetE P l = 0)
    (hb : ∀ (k : Nat) (hk : k < l.length), 0 ≤ l[k].b ∧ l[k].b ≤ (P : Int) - 2) (hl : l.length ≤ 10) (hlc : l.length ≤ c) (b1 : 2 ≤ S) (b2 : S ≤ P) (b3 : P ≤ 24) :
    Calls Tryd.prog 31 #[.agg #[.int .i64 P, .slice A l.length c], .int .i64 S] w fun e w' => ∃ v, e = .returned (.tuple #[v, .int .i64 0]) ∧ Own 3 Tri.enc w' w.heap.size 33 v (rst P S ((bsel P S l (bfL l) l.length 0 1 0).map (xAt l)) (-1)) ∧ Below w.heap.size w w' := by
  obtain ⟨i0, hi0, hz0', hz1', hz2'⟩ := info_parts infoInt
  have HC := Lib.hid hchk
  have HSH := Lib.hid hsh
  have HH := Lib.hid hb
  have HWW := Lib.hid hw
  have b1' : (2 : Int) ≤ S := by omega
  have b2' : (S : Int) ≤ P := by omega
  have b3' : (P : Int) ≤ 24 := by omega
  clear hchk hb hsh
  have hmm := @run_makeMap Tryd.prog
  go_enter Tryd.func31, Tryd.ntmps31
  go_wp2_with (first
    | (go_at_call 12; refine (ccheck_any P A l c S w.heap.size 0 _ H (hr.below' (B' := w.heap.size) (by (repeat' first | exact Below.refl _ _ | apply Below.drew | (refine Below.setCells ?_ _ _ ?_) | (refine Below.setCell ?_ ?_ _) | (refine Below.alloc ?_ ?_ _) | (simp; done) | (simp; omega))) hH) (by simp; omega) (by simp) (by simp) hw (by omega)).mono ?_; rintro e w1 ⟨rfl, hB1⟩; rw [HC.out]
       have kS := (Blk.new w 28 #[.int .i64 P, .slice A l.length c]).below' hB1
       have c0 := kS.cell 0 (.int .i64 P) rfl
       have c1 := kS.cell 1 (.slice A l.length c) rfl
       have n1 := kS.lt)
    | (go_at_call 46
       have hBw : Below w.heap.size w w1 := Below.trans (b := w.alloc (.cells #[.int .i64 P, .slice A l.length c] 28)) (by (repeat' first | exact Below.refl _ _ | apply Below.drew | (refine Below.setCells ?_ _ _ ?_) | (refine Below.setCell ?_ ?_ _) | (refine Below.alloc ?_ ?_ _) | (simp; done) | (simp; omega))) (hB1.mono (by simp))
       have hBW : Below w1.heap.size w1 ((w1.alloc (.map #[] 0)).alloc (.cells #[.pointer (some ⟨w.heap.size, 0, none⟩), .int .i64 S, .slice none 0 0, .map (some w1.heap.size)] 90)) := by (repeat' first | exact Below.refl _ _ | apply Below.drew | (refine Below.setCells ?_ _ _ ?_) | (refine Below.setCell ?_ ?_ _) | (refine Below.alloc ?_ ?_ _) | (simp; done) | (simp; omega))
       refine (levels_any P A l c _ H (hr.below' (hBw.trans (hBW.mono (by omega))) hH) (by simp; omega) HWW.out HSH.out (fun k hk => by have := HH.out k hk; omega) (by omega)).mono ?_
       rintro e w2 ⟨vL, L, rfl, hLo, hLl, hLb, hLord, hB2⟩
       have kS2 := ((kS.alloc (.map #[] 0)).alloc (.cells #[.pointer (some ⟨w.heap.size, 0, none⟩), .int .i64 S, .slice none 0 0, .map (some w1.heap.size)] 90)).below' hB2
       have kp2 := (Blk.new (w1.alloc (.map #[] 0)) 90 #[.pointer (some ⟨w.heap.size, 0, none⟩), .int .i64 S, .slice none 0 0, .map (some w1.heap.size)]).below' hB2
       rw [World.size_alloc] at kp2
       have hM2 : MapK P S l (bfL l) w2 w1.heap.size 0 := MapK.below (w := (w1.alloc (.map #[] 0)).alloc (.cells #[.pointer (some ⟨w.heap.size, 0, none⟩), .int .i64 S, .slice none 0 0, .map (some w1.heap.size)] 90)) ⟨.map [], (World.ownsMap_made w1 _ _ _).alloc _, Known.empty⟩ hB2
       have hBw2 : Below w.heap.size w w2 := hBw.trans ((hBW.mono (by omega)).trans (hB2.mono (by simp; omega)))
       obtain ⟨AL, cL, hvL, hLr, hLb2⟩ := Own.rdfb hLo
       subst hvL
       have HLF := Lib.hid hLr
       have HLB := Lib.hid hLb2
       have d1 := kS2.cell 1 (.slice A l.length c) rfl
       have n2 := kp2.lt
       clear hLo hLr hB2 hLb2))
  clear c0 c1 hmm
  go_loopw [42] (fun i wr => ∃ (j : Nat) (v : Value), j ≤ l.length ∧ i = .int .i64 j ∧ Blk wr (w1.heap.size + 1) 90 #[.pointer (some ⟨w.heap.size, 0, none⟩), .int .i64 S, v, .map (some w1.heap.size)] ∧ Own 1 nenc wr w2.heap.size 3 v ((List.range j).map (bfAt l)) ∧ Same (fun k => k < w2.heap.size ∧ k ≠ w1.heap.size + 1) w2 wr) (fun i _ => l.length - (intOf i).toNat)
  case atStart => exact ⟨0, _, by omega, rfl, kp2, Own.nil _ _ _, Same.refl _ _⟩
  case round =>
    obtain ⟨j, v, hj, rfl, hkp, hown, hS⟩ := hrel
    have hz2 := hS.size
    have kSr := kS2.same hS ⟨by omega, by omega⟩
    have e1 := kSr.cell 1 (.slice A l.length c) rfl
    have hLF : RdF wr AL L := HLF.out.same hS (fun b o v hA hc => ⟨lt_of_cell hc, by have := (HLB.out b o hA).1; simp at this; omega⟩)
    by_cases hlt : j < l.length
    · have hrm : RdT wr H A l := (hr.below' hBw2 hH).keep (fun q hq => hS.cell (p := q) ⟨by omega, by omega⟩)
      obtain ⟨b, o, rfl, hb0, h0, h1, h2⟩ := hrm.tri hlt
      have kSl := kSr.lt
      have hjc : j ≤ c := by omega
      go_wp2_with fail
      have hbw : Blk (wr.alloc (.cells #[.int .i64 l[j].a, .int .i64 l[j].b, .string l[j].s] 46)) wr.heap.size 46 #[.int .i64 l[j].a, .int .i64 l[j].b, .string l[j].s] := Blk.new wr _ _
      have hW : Below wr.heap.size wr (wr.alloc (.cells #[.int .i64 l[j].a, .int .i64 l[j].b, .string l[j].s] 46)) := by (repeat' first | exact Below.refl _ _ | apply Below.drew | (refine Below.setCells ?_ _ _ ?_) | (refine Below.setCell ?_ ?_ _) | (refine Below.alloc ?_ ?_ _) | (simp; done) | (simp; omega))
      have hWs : (wr.alloc (.cells #[.int .i64 l[j].a, .int .i64 l[j].b, .string l[j].s] 46)).heap.size = wr.heap.size + 1 := by simp
      generalize wr.alloc (.cells #[.int .i64 l[j].a, .int .i64 l[j].b, .string l[j].s] 46) = W at *
      have hWl : wr.heap.size < W.heap.size := by omega
      clear hWs
      have hjL : j < L.length := by omega
      obtain ⟨lb, lo', hA, hLc0⟩ := hLF.at hjL
      have hLc := Lib.hid hLc0
      have hLbn := (HLB.out lb lo' hA).2
      subst hA
      have hYb := hLb.out L[j] (List.getElem_mem hjL)
      obtain ⟨Y, hY⟩ : ∃ Y, Hid (L[j] = Y) := ⟨_, Lib.hid rfl⟩
      have hYc := hLc0 j hjL
      rw [hY.out] at hYc hYb
      have hYc0 := Lib.hid hYc
      have hbj := HH.out j hlt
      clear hLc0 hLF hYc
      have hbw0 := hbw
      have hkS0 := kSr.below' hW
      have hrmW := hrm.below' hW (by omega)
      obtain ⟨wo, rfl⟩ : ∃ wo : World, wo = wr := ⟨_, rfl⟩
      go_loopw [12, 52] (fun st k wi => ∃ m : Nat, m ≤ j ∧ k = .int .i64 m ∧ st = .int .i64 (bitsUpto (touchAt l j) m) ∧ Below W.heap.size W wi) (fun _ k _ => j - (intOf k).toNat)
      case atStart => exact ⟨0, by omega, rfl, rfl, Below.refl _ _⟩
      case round =>
        obtain ⟨m, hmj, rfl, rfl, hBi⟩ := hrel
        have hzi := hBi.size
        by_cases hm : m < j
        · have hml : m < l.length := by omega
          have hmL : m < L.length := by omega
          obtain ⟨g0, g1, g2, g3⟩ := (hrmW.below' hBi (by omega)).triAt hml
          have hbm := HH.out m hml
          have hwb1 := (hbw0.below' hBi).cell 1 _ rfl
          have hwbl := (hbw0.below' hBi).lt
          have hYi := (hBi.cell (p := ⟨lb, lo' + j, none⟩) (by show lb < _; omega)).trans ((hW.cell (p := ⟨lb, lo' + j, none⟩) (by show lb < _; omega)).trans hYc0.out)
          have hXb := hLb.out L[m] (List.getElem_mem hmL)
          obtain ⟨X, hX⟩ : ∃ X, Hid (L[m] = X) := ⟨_, Lib.hid rfl⟩
          have hXi := (hBi.cell (p := ⟨lb, lo' + m, none⟩) (by show lb < _; omega)).trans ((hW.cell (p := ⟨lb, lo' + m, none⟩) (by show lb < _; omega)).trans (hLc.out m hmL))
          rw [hX.out] at hXi hXb
          have hLO := hLord.out m j hm hjL hlt
          rw [hX.out, hY.out] at hLO
          have hlbi := lt_of_cell hXi
          have hTA : Hid (touchAt l j m = touchB l[m].b l[j].b) := by rw [Hid, touchAt, xAt_of hml, xAt_of hlt]
          have k0 : (0 : Int) ≤ (m : Int) := by omega
          have k1 : (m : Int) < (l.length : Int) := by omega
          have k2 : (0 : Int) ≤ (j : Int) := by omega
          have k3 : (j : Int) < (l.length : Int) := by omega
          have k4 : (m : Int) ≤ 64 := by omega
          have hbu := bitsUpto_lt (touchAt l j) m
          have hbu2 : Hid (bitsUpto (touchAt l j) m < 1048576) := Nat.lt_of_lt_of_le hbu (Nat.le_trans (Nat.pow_le_pow_right (by omega) (show m ≤ 20 by omega)) (by decide))
          clear hbu
          by_cases ht : touchB l[m].b l[j].b = true
          · have hxy := hLO ht
            have HTT := Lib.hid ht
            unfold touchB at ht
            simp only [Bool.and_eq_true, decide_eq_true_eq] at ht
            have f1 : decide ((X : Int) < (Y : Int)) = true := by simpa using hxy
            have f2 : decide (l[m].b - l[j].b < 2) = true := by simp; omega
            have f3 : decide (l[j].b - l[m].b < 2) = true := by simp; omega
            clear ht hLO
            go_wp2_with fail
            go_quiet (fail)
            go_wp2_with fail
            go_roundw
            case rel => exact ⟨m + 1, by omega, by go_num, by rw [bor_shl _ _ hbu2.out (by omega), bitsUpto, if_pos (by rw [hTA.out]; exact HTT.out)], (hBi.alloc (by omega) _).drewN nq⟩
            case measure => simp [intOf]; omega
          · have HTT := Lib.hid ht
            unfold touchB at ht
            simp only [Bool.and_eq_true, decide_eq_true_eq] at ht
            clear hLO
            by_cases hxy : X < Y
            · have f1 : decide ((X : Int) < (Y : Int)) = true := by simpa using hxy
              by_cases h12 : l[m].b - l[j].b < 2
              · have f2 : decide (l[m].b - l[j].b < 2) = true := by simpa using h12
                have f3 : decide (l[j].b - l[m].b < 2) = false := by simp; omega
                clear ht
                go_wp2_with fail
                go_quiet (fail)
                go_wp2_with fail
                go_roundw
                case rel => exact ⟨m + 1, by omega, by go_num, by rw [bitsUpto, if_neg (by rw [hTA.out]; exact HTT.out)], (hBi.alloc (by omega) _).drewN nq⟩
                case measure => simp [intOf]; omega
              · have f2 : decide (l[m].b - l[j].b < 2) = false := by simpa using h12
                clear ht
                go_wp2_with fail
                go_quiet (fail)
                go_wp2_with fail
                go_roundw
                case rel => exact ⟨m + 1, by omega, by go_num, by rw [bitsUpto, if_neg (by rw [hTA.out]; exact HTT.out)], (hBi.alloc (by omega) _).drewN nq⟩
                case measure => simp [intOf]; omega
            · have f1 : decide ((X : Int) < (Y : Int)) = false := by simpa using hxy
              clear ht
              go_wp2_with fail
              go_quiet (fail)
              go_wp2_with fail
              go_roundw
              case rel => exact ⟨m + 1, by omega, by go_num, by rw [bitsUpto, if_neg (by rw [hTA.out]; exact HTT.out)], (hBi.alloc (by omega) _).drewN nq⟩
              case measure => simp [intOf]; omega
        · have e2 : m = j := by omega
          subst e2
          have hkp2 := (hkp.below' hW).below' hBi
          have hown2 := (hown.below hW).below hBi
          have s2 := hkp2.cell 2 v rfl
          have s2l := hkp2.lt
          have hne : ∀ g, g < w2.heap.size → some g ≠ v.ownBlock := fun g hg e => by have := (World.ownsRow.lt hown g e.symm).1; omega
          have HBI := Lib.hid (show bitsUpto (touchAt l m) m = bfAt l m from rfl)
          go_wp2_with (first
            | (at_builtin; refine wpList_append_n rfl (.tmp 91) (.tmp 93) _ rfl w2.heap.size _ i0 _ Tryd.underlying37 hi0 hz0' hz1' hz2' rfl v ((List.range m).map (bfAt l)) rfl (hown2.alloc _) wr.heap.size (bitsUpto (touchAt l m) m) rfl (cell_new rfl) (by simp; omega) (by simp; omega) ?_; intro v' w4 hown4 hg4
               have hkp4 := (hkp2.alloc (.cells #[.int .i64 (bitsUpto (touchAt l m) m)] 3)).grown hg4 (hne _ n2)
               obtain ⟨A4, c4, hv4, _, _⟩ := Own.rd nenc_len hown4
               subst hv4
               have s4 := hkp4.cell 2 v rfl
               have s4f := hkp4.frozen 2
               have s4l := hkp4.lt))
          go_roundw
          case rel =>
            have hS4 : Same (fun k => k < w2.heap.size ∧ k ≠ w1.heap.size + 1) w2 w4 := ((hS.trans (Same.below_mono hW (fun k hk => by omega))).trans (Same.below_mono hBi (fun k hk => by omega))).trans ⟨hg4.os, hg4.tape, hg4.output, Nat.le_trans (by simp) hg4.size, fun k hk => (hg4.block k (by simp; omega) (hne k hk.1)).trans (Below.heap_alloc wr _ k (by omega))⟩
            refine ⟨m + 1, _, by omega, by go_num, hkp4.set_ 2 _, ?_, hS4.setCell (p := ⟨w1.heap.size + 1, 2, none⟩) (fun e => e.2 rfl) _⟩
            rw [List.range_succ, List.map_append, List.map_cons, List.map_nil, ← HBI.out]
            exact Own.far (by simpa using hown4) (p := ⟨w1.heap.size + 1, 2, none⟩) n2 _
          case measure => simp [intOf]; omega
    · have e2 : j = l.length := by omega
      subst e2
      have hsb0 := kSr.cell 0 (.int .i64 P) rfl
      have hsbl := kSr.lt
      go_wp2_with fail
      go_cut [15, 16] (fun xa xb wx => ∃ n15 n16 : Nat, xa = .pointer (some ⟨n15, 0, none⟩) ∧ xb = .pointer (some ⟨n16, 0, none⟩) ∧ n15 ≠ n16 ∧ wr.heap.size ≤ n15 ∧ wr.heap.size ≤ n16 ∧ Blk wx n15 95 #[.int .i64 0, .int .i64 1, .int .i64 0] ∧ Blk wx n16 28 #[.int .i64 P, .slice none 0 0] ∧ Below wr.heap.size wr wx)
      case first =>
        refine wp_region_J (fun w' => w'.cell? ⟨w.heap.size, 0, none⟩ = some (.int .i64 P)) (fun _ => True) (fun _ => false) (by kernel_rfl) ?_
        have hB0 : Below wr.heap.size wr wr.drew := (Below.refl _ _).drew
        have hS1 : wr.drew.cell? ⟨w.heap.size, 0, none⟩ = some (.int .i64 P) := hsb0
        generalize wr.drew = W0 at *
        refine wpAnyJ_take1 2 rfl (by kernel_rfl) (by kernel_rfl) rfl (by kernel_rfl) (fun _ _ _ h => h) (by rfl) hS1 (fun w' hSw => (by obtain hSw := hSw; go_simp; try (with_reducible rfl))) ?_
        try simp only [Act.put, List.getElem_toArray, List.getElem_cons_succ, List.getElem_cons_zero, List.setIfInBounds_toArray, List.set_cons_zero, List.set_cons_succ]
        refine wpAnyJ_take1 3 rfl (by kernel_rfl) (by kernel_rfl) rfl (by kernel_rfl) (fun _ _ _ h => h) (by rfl) hS1 (fun w' hSw => (by obtain hSw := hSw; go_simp; try (with_reducible rfl))) ?_
        try simp only [Act.put, List.getElem_toArray, List.getElem_cons_succ, List.getElem_cons_zero, List.setIfInBounds_toArray, List.set_cons_zero, List.set_cons_succ]
        refine wpAnyJ_take1 4 rfl (by kernel_rfl) (by kernel_rfl) rfl (by kernel_rfl) (fun _ _ _ h => h) (by rfl) hS1 (fun w' hSw => (by obtain hSw := hSw; go_simp; try (with_reducible rfl))) ?_
        try simp only [Act.put, List.getElem_toArray, List.getElem_cons_succ, List.getElem_cons_zero, List.setIfInBounds_toArray, List.set_cons_zero, List.set_cons_succ]
        refine wpAnyJ_ready [0, 5, 6] (by kernel_rfl) (by simp) (NextJ.cons rfl (fun K hK => ?_) (NextJ.cons rfl (fun K hK => ?_) (NextJ.cons rfl (fun K hK => ?_) NextJ.nil)))
        · skip
          go_simp
          refine (nowhere_any _).mono ?_
          rintro e W1 ⟨rfl, hc1⟩
          have hB1 := hB0.trans (hc1.mono hB0.size)
          have hs1 := hc1.size
          go_simp
          refine hK.out _ _ ((hB1.cell (p := ⟨w.heap.size, 0, none⟩) hsbl).trans hsb0) (fun h => absurd h (by decide)) ?_
          clear hK K
          try simp only [Act.put, List.getElem_toArray, List.getElem_cons_succ, List.getElem_cons_zero, List.setIfInBounds_toArray, List.set_cons_zero, List.set_cons_succ]
          have hS1 := (hB1.cell (p := ⟨w.heap.size, 0, none⟩) hsbl).trans hsb0
          refine wpAnyJ_take1 1 rfl (by kernel_rfl) (by kernel_rfl) rfl (by kernel_rfl) (fun _ _ _ h => h) (by rfl) hS1 (fun w' hSw => (by obtain hSw := hSw; go_simp; try (with_reducible rfl))) ?_
          try simp only [Act.put, List.getElem_toArray, List.getElem_cons_succ, List.getElem_cons_zero, List.setIfInBounds_toArray, List.set_cons_zero, List.set_cons_succ]
          refine wpAnyJ_ready [5, 6] (by kernel_rfl) (by simp) (NextJ.cons rfl (fun K hK => ?_) (NextJ.cons rfl (fun K hK => ?_) NextJ.nil))
          · skip
            go_simp
            have hB2 := hB1.alloc hB1.size (.cells #[.int .i64 0, .int .i64 0, .int .i64 0] 95)
            have h15 := Blk.new W1 95 #[.int .i64 0, .int .i64 0, .int .i64 0]
            generalize W1.alloc (.cells #[.int .i64 0, .int .i64 0, .int .i64 0] 95) = W2 at *
            have hs2 : W1.heap.size < W2.heap.size := h15.lt
            refine hK.out _ _ ((hB2.cell (p := ⟨w.heap.size, 0, none⟩) hsbl).trans hsb0) (fun h => absurd h (by decide)) ?_
            clear hK K
            try simp only [Act.put, List.getElem_toArray, List.getElem_cons_succ, List.getElem_cons_zero, List.setIfInBounds_toArray, List.set_cons_zero, List.set_cons_succ]
            have hS1 := (hB2.cell (p := ⟨w.heap.size, 0, none⟩) hsbl).trans hsb0
            refine wpAnyJ_ready [6] (by kernel_rfl) (by simp) (NextJ.cons rfl (fun K hK => ?_) NextJ.nil)
            · skip
              go_simp
              have hB3 := hB2.alloc hB2.size (.cells #[.int .i64 0, .slice none 0 0] 28)
              have h15 := h15.alloc (.cells #[.int .i64 0, .slice none 0 0] 28)
              have h16 := Blk.new W2 28 #[.int .i64 0, .slice none 0 0]
              generalize W2.alloc (.cells #[.int .i64 0, .slice none 0 0] 28) = W3 at *
              have hs3 : W2.heap.size < W3.heap.size := h16.lt
              refine hK.out _ _ ((hB3.cell (p := ⟨w.heap.size, 0, none⟩) hsbl).trans hsb0) (fun h => absurd h (by decide)) ?_
              clear hK K
              try simp only [Act.put, List.getElem_toArray, List.getElem_cons_succ, List.getElem_cons_zero, List.setIfInBounds_toArray, List.set_cons_zero, List.set_cons_succ]
              have hS1 := (hB3.cell (p := ⟨w.heap.size, 0, none⟩) hsbl).trans hsb0
              have hne : W1.heap.size ≠ W2.heap.size := by omega
              have g1 : wr.heap.size ≤ W1.heap.size := hB1.size
              have g2 : wr.heap.size ≤ W2.heap.size := hB2.size
              generalize W1.heap.size = n15 at *
              generalize W2.heap.size = n16 at *
              refine wpAnyJ_ready [7] (by kernel_rfl) (by simp) (NextJ.cons rfl (fun K hK => ?_) NextJ.nil)
              have q0 := h15.cell 0 _ rfl
              have q1 := h15.cell 1 _ rfl
              have q2 := h15.cell 2 _ rfl
              have f0 := h15.frozen 0
              have f1 := h15.frozen 1
              have f2 := h15.frozen 2
              have ql := h15.lt
              go_simp
              have hB7 := ((hB3.setCell (p := ⟨n15, 0, none⟩) g1 (.int .i64 0)).setCell (p := ⟨n15, 1, none⟩) g1 (.int .i64 1)).setCell (p := ⟨n15, 2, none⟩) g1 (.int .i64 0)
              have h15' := ((h15.set_ 0 (.int .i64 0)).set_ 1 (.int .i64 1)).set_ 2 (.int .i64 0)
              have h16' := ((h16.far (p := ⟨n15, 0, none⟩) (Ne.symm hne) (.int .i64 0)).far (p := ⟨n15, 1, none⟩) (Ne.symm hne) (.int .i64 1)).far (p := ⟨n15, 2, none⟩) (Ne.symm hne) (.int .i64 0)
              clear q0 q1 q2 f0 f1 f2 ql
              refine hK.out _ _ ((hB7.cell (p := ⟨w.heap.size, 0, none⟩) hsbl).trans hsb0) (fun h => absurd h (by decide)) ?_
              clear hK K
              try simp only [Act.put, List.getElem_toArray, List.getElem_cons_succ, List.getElem_cons_zero, List.setIfInBounds_toArray, List.set_cons_zero, List.set_cons_succ]
              generalize ((W3.setCell ⟨n15, 0, none⟩ (.int .i64 0)).setCell ⟨n15, 1, none⟩ (.int .i64 1)).setCell ⟨n15, 2, none⟩ (.int .i64 0) = W7 at *
              refine wpAnyJ_ready [8] (by kernel_rfl) (by simp) (NextJ.cons rfl (fun K hK => ?_) NextJ.nil)
              have q0 := h16'.cell 0 _ rfl
              have q1 := h16'.cell 1 _ rfl
              have f0 := h16'.frozen 0
              have f1 := h16'.frozen 1
              have ql := h16'.lt
              go_simp
              have hB8 := (hB7.setCell (p := ⟨n16, 0, none⟩) g2 (.int .i64 P)).setCell (p := ⟨n16, 1, none⟩) g2 (.slice none 0 0)
              have h16'' := (h16'.set_ 0 (.int .i64 P)).set_ 1 (.slice none 0 0)
              have h15'' := (h15'.far (p := ⟨n16, 0, none⟩) hne (.int .i64 P)).far (p := ⟨n16, 1, none⟩) hne (.slice none 0 0)
              refine hK.out _ _ ((hB8.cell (p := ⟨w.heap.size, 0, none⟩) hsbl).trans hsb0) (fun h => absurd h (by decide)) ?_
              clear hK K
              try simp only [Act.put, List.getElem_toArray, List.getElem_cons_succ, List.getElem_cons_zero, List.setIfInBounds_toArray, List.set_cons_zero, List.set_cons_succ]
              clear q0 q1 f0 f1 ql
              refine wpAnyJ_done (by kernel_rfl) ?_ _
              go_wp2_with fail
              go_meet
              exact ⟨n15, n16, rfl, rfl, hne, g1, g2, h15'', h16'', hB8⟩
          · skip
            go_simp
            have hB2 := hB1.alloc hB1.size (.cells #[.int .i64 0, .slice none 0 0] 28)
            have h16 := Blk.new W1 28 #[.int .i64 0, .slice none 0 0]
            generalize W1.alloc (.cells #[.int .i64 0, .slice none 0 0] 28) = W2 at *
            have hs2 : W1.heap.size < W2.heap.size := h16.lt
            refine hK.out _ _ ((hB2.cell (p := ⟨w.heap.size, 0, none⟩) hsbl).trans hsb0) (fun h => absurd h (by decide)) ?_
            clear hK K
            try simp only [Act.put, List.getElem_toArray, List.getElem_cons_succ, List.getElem_cons_zero, List.setIfInBounds_toArray, List.set_cons_zero, List.set_cons_succ]
            have hS1 := (hB2.cell (p := ⟨w.heap.size, 0, none⟩) hsbl).trans hsb0
            refine wpAnyJ_ready [5] (by kernel_rfl) (by simp) (NextJ.cons rfl (fun K hK => ?_) NextJ.nil)
            · skip
              go_simp
              have hB3 := hB2.alloc hB2.size (.cells #[.int .i64 0, .int .i64 0, .int .i64 0] 95)
              have h16 := h16.alloc (.cells #[.int .i64 0, .int .i64 0, .int .i64 0] 95)
              have h15 := Blk.new W2 95 #[.int .i64 0, .int .i64 0, .int .i64 0]
              generalize W2.alloc (.cells #[.int .i64 0, .int .i64 0, .int .i64 0] 95) = W3 at *
              have hs3 : W2.heap.size < W3.heap.size := h15.lt
              refine hK.out _ _ ((hB3.cell (p := ⟨w.heap.size, 0, none⟩) hsbl).trans hsb0) (fun h => absurd h (by decide)) ?_
              clear hK K
              try simp only [Act.put, List.getElem_toArray, List.getElem_cons_succ, List.getElem_cons_zero, List.setIfInBounds_toArray, List.set_cons_zero, List.set_cons_succ]
              have hS1 := (hB3.cell (p := ⟨w.heap.size, 0, none⟩) hsbl).trans hsb0
              have hne : W2.heap.size ≠ W1.heap.size := by omega
              have g1 : wr.heap.size ≤ W2.heap.size := hB2.size
              have g2 : wr.heap.size ≤ W1.heap.size := hB1.size
              generalize W2.heap.size = n15 at *
              generalize W1.heap.size = n16 at *
              refine wpAnyJ_ready [7] (by kernel_rfl) (by simp) (NextJ.cons rfl (fun K hK => ?_) NextJ.nil)
              have q0 := h15.cell 0 _ rfl
              have q1 := h15.cell 1 _ rfl
              have q2 := h15.cell 2 _ rfl
              have f0 := h15.frozen 0
              have f1 := h15.frozen 1
              have f2 := h15.frozen 2
              have ql := h15.lt
              go_simp
              have hB7 := ((hB3.setCell (p := ⟨n15, 0, none⟩) g1 (.int .i64 0)).setCell (p := ⟨n15, 1, none⟩) g1 (.int .i64 1)).setCell (p := ⟨n15, 2, none⟩) g1 (.int .i64 0)
              have h15' := ((h15.set_ 0 (.int .i64 0)).set_ 1 (.int .i64 1)).set_ 2 (.int .i64 0)
              have h16' := ((h16.far (p := ⟨n15, 0, none⟩) (Ne.symm hne) (.int .i64 0)).far (p := ⟨n15, 1, none⟩) (Ne.symm hne) (.int .i64 1)).far (p := ⟨n15, 2, none⟩) (Ne.symm hne) (.int .i64 0)
              clear q0 q1 q2 f0 f1 f2 ql
              refine hK.out _ _ ((hB7.cell (p := ⟨w.heap.size, 0, none⟩) hsbl).trans hsb0) (fun h => absurd h (by decide)) ?_
              clear hK K
              try simp only [Act.put, List.getElem_toArray, List.getElem_cons_succ, List.getElem_cons_zero, List.setIfInBounds_toArray, List.set_cons_zero, List.set_cons_succ]
              generalize ((W3.setCell ⟨n15, 0, none⟩ (.int .i64 0)).setCell ⟨n15, 1, none⟩ (.int .i64 1)).setCell ⟨n15, 2, none⟩ (.int .i64 0) = W7 at *
              refine wpAnyJ_ready [8] (by kernel_rfl) (by simp) (NextJ.cons rfl (fun K hK => ?_) NextJ.nil)
              have q0 := h16'.cell 0 _ rfl
              have q1 := h16'.cell 1 _ rfl
              have f0 := h16'.frozen 0
              have f1 := h16'.frozen 1
              have ql := h16'.lt
              go_simp
              have hB8 := (hB7.setCell (p := ⟨n16, 0, none⟩) g2 (.int .i64 P)).setCell (p := ⟨n16, 1, none⟩) g2 (.slice none 0 0)
              have h16'' := (h16'.set_ 0 (.int .i64 P)).set_ 1 (.slice none 0 0)
              have h15'' := (h15'.far (p := ⟨n16, 0, none⟩) hne (.int .i64 P)).far (p := ⟨n16, 1, none⟩) hne (.slice none 0 0)
              refine hK.out _ _ ((hB8.cell (p := ⟨w.heap.size, 0, none⟩) hsbl).trans hsb0) (fun h => absurd h (by decide)) ?_
              clear hK K
              try simp only [Act.put, List.getElem_toArray, List.getElem_cons_succ, List.getElem_cons_zero, List.setIfInBounds_toArray, List.set_cons_zero, List.set_cons_succ]
              clear q0 q1 f0 f1 ql
              refine wpAnyJ_done (by kernel_rfl) ?_ _
              go_wp2_with fail
              go_meet
              exact ⟨n15, n16, rfl, rfl, hne, g1, g2, h15'', h16'', hB8⟩
        · skip
          go_simp
          have hB1 := hB0.alloc hB0.size (.cells #[.int .i64 0, .int .i64 0, .int .i64 0] 95)
          have h15 := Blk.new W0 95 #[.int .i64 0, .int .i64 0, .int .i64 0]
          generalize W0.alloc (.cells #[.int .i64 0, .int .i64 0, .int .i64 0] 95) = W1 at *
          have hs1 : W0.heap.size < W1.heap.size := h15.lt
          refine hK.out _ _ ((hB1.cell (p := ⟨w.heap.size, 0, none⟩) hsbl).trans hsb0) (fun h => absurd h (by decide)) ?_
          clear hK K
          try simp only [Act.put, List.getElem_toArray, List.getElem_cons_succ, List.getElem_cons_zero, List.setIfInBounds_toArray, List.set_cons_zero, List.set_cons_succ]
          have hS1 := (hB1.cell (p := ⟨w.heap.size, 0, none⟩) hsbl).trans hsb0
          refine wpAnyJ_ready [0, 6] (by kernel_rfl) (by simp) (NextJ.cons rfl (fun K hK => ?_) (NextJ.cons rfl (fun K hK => ?_) NextJ.nil))
          · skip
            go_simp
            refine (nowhere_any _).mono ?_
            rintro e W2 ⟨rfl, hc2⟩
            have hB2 := hB1.trans (hc2.mono hB1.size)
            have h15 := h15.below' hc2
            have hs2 := hc2.size
            go_simp
            refine hK.out _ _ ((hB2.cell (p := ⟨w.heap.size, 0, none⟩) hsbl).trans hsb0) (fun h => absurd h (by decide)) ?_
            clear hK K
            try simp only [Act.put, List.getElem_toArray, List.getElem_cons_succ, List.getElem_cons_zero, List.setIfInBounds_toArray, List.set_cons_zero, List.set_cons_succ]
            have hS1 := (hB2.cell (p := ⟨w.heap.size, 0, none⟩) hsbl).trans hsb0
            refine wpAnyJ_take1 1 rfl (by kernel_rfl) (by kernel_rfl) rfl (by kernel_rfl) (fun _ _ _ h => h) (by rfl) hS1 (fun w' hSw => (by obtain hSw := hSw; go_simp; try (with_reducible rfl))) ?_
            try simp only [Act.put, List.getElem_toArray, List.getElem_cons_succ, List.getElem_cons_zero, List.setIfInBounds_toArray, List.set_cons_zero, List.set_cons_succ]
            refine wpAnyJ_ready [6] (by kernel_rfl) (by simp) (NextJ.cons rfl (fun K hK => ?_) NextJ.nil)
            · skip
              go_simp
              have hB3 := hB2.alloc hB2.size (.cells #[.int .i64 0, .slice none 0 0] 28)
              have h15 := h15.alloc (.cells #[.int .i64 0, .slice none 0 0] 28)
              have h16 := Blk.new W2 28 #[.int .i64 0, .slice none 0 0]
              generalize W2.alloc (.cells #[.int .i64 0, .slice none 0 0] 28) = W3 at *
              have hs3 : W2.heap.size < W3.heap.size := h16.lt
              refine hK.out _ _ ((hB3.cell (p := ⟨w.heap.size, 0, none⟩) hsbl).trans hsb0) (fun h => absurd h (by decide)) ?_
              clear hK K
              try simp only [Act.put, List.getElem_toArray, List.getElem_cons_succ, List.getElem_cons_zero, List.setIfInBounds_toArray, List.set_cons_zero, List.set_cons_succ]
              have hS1 := (hB3.cell (p := ⟨w.heap.size, 0, none⟩) hsbl).trans hsb0
              have hne : W0.heap.size ≠ W2.heap.size := by omega
              have g1 : wr.heap.size ≤ W0.heap.size := hB0.size
              have g2 : wr.heap.size ≤ W2.heap.size := hB2.size
              generalize W0.heap.size = n15 at *
              generalize W2.heap.size = n16 at *
              refine wpAnyJ_ready [7] (by kernel_rfl) (by simp) (NextJ.cons rfl (fun K hK => ?_) NextJ.nil)
              have q0 := h15.cell 0 _ rfl
              have q1 := h15.cell 1 _ rfl
              have q2 := h15.cell 2 _ rfl
              have f0 := h15.frozen 0
              have f1 := h15.frozen 1
              have f2 := h15.frozen 2
              have ql := h15.lt
              go_simp
              have hB7 := ((hB3.setCell (p := ⟨n15, 0, none⟩) g1 (.int .i64 0)).setCell (p := ⟨n15, 1, none⟩) g1 (.int .i64 1)).setCell (p := ⟨n15, 2, none⟩) g1 (.int .i64 0)
              have h15' := ((h15.set_ 0 (.int .i64 0)).set_ 1 (.int .i64 1)).set_ 2 (.int .i64 0)
              have h16' := ((h16.far (p := ⟨n15, 0, none⟩) (Ne.symm hne) (.int .i64 0)).far (p := ⟨n15, 1, none⟩) (Ne.symm hne) (.int .i64 1)).far (p := ⟨n15, 2, none⟩) (Ne.symm hne) (.int .i64 0)
              clear q0 q1 q2 f0 f1 f2 ql
              refine hK.out _ _ ((hB7.cell (p := ⟨w.heap.size, 0, none⟩) hsbl).trans hsb0) (fun h => absurd h (by decide)) ?_
              clear hK K
              try simp only [Act.put, List.getElem_toArray, List.getElem_cons_succ, List.getElem_cons_zero, List.setIfInBounds_toArray, List.set_cons_zero, List.set_cons_succ]
              generalize ((W3.setCell ⟨n15, 0, none⟩ (.int .i64 0)).setCell ⟨n15, 1, none⟩ (.int .i64 1)).setCell ⟨n15, 2, none⟩ (.int .i64 0) = W7 at *
              refine wpAnyJ_ready [8] (by kernel_rfl) (by simp) (NextJ.cons rfl (fun K hK => ?_) NextJ.nil)
              have q0 := h16'.cell 0 _ rfl
              have q1 := h16'.cell 1 _ rfl
              have f0 := h16'.frozen 0
              have f1 := h16'.frozen 1
              have ql := h16'.lt
              go_simp
              have hB8 := (hB7.setCell (p := ⟨n16, 0, none⟩) g2 (.int .i64 P)).setCell (p := ⟨n16, 1, none⟩) g2 (.slice none 0 0)
              have h16'' := (h16'.set_ 0 (.int .i64 P)).set_ 1 (.slice none 0 0)
              have h15'' := (h15'.far (p := ⟨n16, 0, none⟩) hne (.int .i64 P)).far (p := ⟨n16, 1, none⟩) hne (.slice none 0 0)
              refine hK.out _ _ ((hB8.cell (p := ⟨w.heap.size, 0, none⟩) hsbl).trans hsb0) (fun h => absurd h (by decide)) ?_
              clear hK K
              try simp only [Act.put, List.getElem_toArray, List.getElem_cons_succ, List.getElem_cons_zero, List.setIfInBounds_toArray, List.set_cons_zero, List.set_cons_succ]
              clear q0 q1 f0 f1 ql
              refine wpAnyJ_done (by kernel_rfl) ?_ _
              go_wp2_with fail
              go_meet
              exact ⟨n15, n16, rfl, rfl, hne, g1, g2, h15'', h16'', hB8⟩
          · skip
            go_simp
            have hB2 := hB1.alloc hB1.size (.cells #[.int .i64 0, .slice none 0 0] 28)
            have h15 := h15.alloc (.cells #[.int .i64 0, .slice none 0 0] 28)
            have h16 := Blk.new W1 28 #[.int .i64 0, .slice none 0 0]
            generalize W1.alloc (.cells #[.int .i64 0, .slice none 0 0] 28) = W2 at *
            have hs2 : W1.heap.size < W2.heap.size := h16.lt
            refine hK.out _ _ ((hB2.cell (p := ⟨w.heap.size, 0, none⟩) hsbl).trans hsb0) (fun h => absurd h (by decide)) ?_
            clear hK K
            try simp only [Act.put, List.getElem_toArray, List.getElem_cons_succ, List.getElem_cons_zero, List.setIfInBounds_toArray, List.set_cons_zero, List.set_cons_succ]
            have hS1 := (hB2.cell (p := ⟨w.heap.size, 0, none⟩) hsbl).trans hsb0
            refine wpAnyJ_ready [0] (by kernel_rfl) (by simp) (NextJ.cons rfl (fun K hK => ?_) NextJ.nil)
            · skip
              go_simp
              refine (nowhere_any _).mono ?_
              rintro e W3 ⟨rfl, hc3⟩
              have hB3 := hB2.trans (hc3.mono hB2.size)
              have h15 := h15.below' hc3
              have h16 := h16.below' hc3
              have hs3 := hc3.size
              go_simp
              refine hK.out _ _ ((hB3.cell (p := ⟨w.heap.size, 0, none⟩) hsbl).trans hsb0) (fun h => absurd h (by decide)) ?_
              clear hK K
              try simp only [Act.put, List.getElem_toArray, List.getElem_cons_succ, List.getElem_cons_zero, List.setIfInBounds_toArray, List.set_cons_zero, List.set_cons_succ]
              have hS1 := (hB3.cell (p := ⟨w.heap.size, 0, none⟩) hsbl).trans hsb0
              refine wpAnyJ_take1 1 rfl (by kernel_rfl) (by kernel_rfl) rfl (by kernel_rfl) (fun _ _ _ h => h) (by rfl) hS1 (fun w' hSw => (by obtain hSw := hSw; go_simp; try (with_reducible rfl))) ?_
              try simp only [Act.put, List.getElem_toArray, List.getElem_cons_succ, List.getElem_cons_zero, List.setIfInBounds_toArray, List.set_cons_zero, List.set_cons_succ]
              have hne : W0.heap.size ≠ W1.heap.size := by omega
              have g1 : wr.heap.size ≤ W0.heap.size := hB0.size
              have g2 : wr.heap.size ≤ W1.heap.size := hB1.size
              generalize W0.heap.size = n15 at *
              generalize W1.heap.size = n16 at *
              refine wpAnyJ_ready [7] (by kernel_rfl) (by simp) (NextJ.cons rfl (fun K hK => ?_) NextJ.nil)
              have q0 := h15.cell 0 _ rfl
              have q1 := h15.cell 1 _ rfl
              have q2 := h15.cell 2 _ rfl
              have f0 := h15.frozen 0
              have f1 := h15.frozen 1
              have f2 := h15.frozen 2
              have ql := h15.lt
              go_simp
              have hB7 := ((hB3.setCell (p := ⟨n15, 0, none⟩) g1 (.int .i64 0)).setCell (p := ⟨n15, 1, none⟩) g1 (.int .i64 1)).setCell (p := ⟨n15, 2, none⟩) g1 (.int .i64 0)
              have h15' := ((h15.set_ 0 (.int .i64 0)).set_ 1 (.int .i64 1)).set_ 2 (.int .i64 0)
              have h16' := ((h16.far (p := ⟨n15, 0, none⟩) (Ne.symm hne) (.int .i64 0)).far (p := ⟨n15, 1, none⟩) (Ne.symm hne) (.int .i64 1)).far (p := ⟨n15, 2, none⟩) (Ne.symm hne) (.int .i64 0)
              clear q0 q1 q2 f0 f1 f2 ql
              refine hK.out _ _ ((hB7.cell (p := ⟨w.heap.size, 0, none⟩) hsbl).trans hsb0) (fun h => absurd h (by decide)) ?_
              clear hK K
              try simp only [Act.put, List.getElem_toArray, List.getElem_cons_succ, List.getElem_cons_zero, List.setIfInBounds_toArray, List.set_cons_zero, List.set_cons_succ]
              generalize ((W3.setCell ⟨n15, 0, none⟩ (.int .i64 0)).setCell ⟨n15, 1, none⟩ (.int .i64 1)).setCell ⟨n15, 2, none⟩ (.int .i64 0) = W7 at *
              refine wpAnyJ_ready [8] (by kernel_rfl) (by simp) (NextJ.cons rfl (fun K hK => ?_) NextJ.nil)
              have q0 := h16'.cell 0 _ rfl
              have q1 := h16'.cell 1 _ rfl
              have f0 := h16'.frozen 0
              have f1 := h16'.frozen 1
              have ql := h16'.lt
              go_simp
              have hB8 := (hB7.setCell (p := ⟨n16, 0, none⟩) g2 (.int .i64 P)).setCell (p := ⟨n16, 1, none⟩) g2 (.slice none 0 0)
              have h16'' := (h16'.set_ 0 (.int .i64 P)).set_ 1 (.slice none 0 0)
              have h15'' := (h15'.far (p := ⟨n16, 0, none⟩) hne (.int .i64 P)).far (p := ⟨n16, 1, none⟩) hne (.slice none 0 0)
              refine hK.out _ _ ((hB8.cell (p := ⟨w.heap.size, 0, none⟩) hsbl).trans hsb0) (fun h => absurd h (by decide)) ?_
              clear hK K
              try simp only [Act.put, List.getElem_toArray, List.getElem_cons_succ, List.getElem_cons_zero, List.setIfInBounds_toArray, List.set_cons_zero, List.set_cons_succ]
              clear q0 q1 f0 f1 ql
              refine wpAnyJ_done (by kernel_rfl) ?_ _
              go_wp2_with fail
              go_meet
              exact ⟨n15, n16, rfl, rfl, hne, g1, g2, h15'', h16'', hB8⟩
        · skip
          go_simp
          have hB1 := hB0.alloc hB0.size (.cells #[.int .i64 0, .slice none 0 0] 28)
          have h16 := Blk.new W0 28 #[.int .i64 0, .slice none 0 0]
          generalize W0.alloc (.cells #[.int .i64 0, .slice none 0 0] 28) = W1 at *
          have hs1 : W0.heap.size < W1.heap.size := h16.lt
          refine hK.out _ _ ((hB1.cell (p := ⟨w.heap.size, 0, none⟩) hsbl).trans hsb0) (fun h => absurd h (by decide)) ?_
          clear hK K
          try simp only [Act.put, List.getElem_toArray, List.getElem_cons_succ, List.getElem_cons_zero, List.setIfInBounds_toArray, List.set_cons_zero, List.set_cons_succ]
          have hS1 := (hB1.cell (p := ⟨w.heap.size, 0, none⟩) hsbl).trans hsb0
          refine wpAnyJ_ready [0, 5] (by kernel_rfl) (by simp) (NextJ.cons rfl (fun K hK => ?_) (NextJ.cons rfl (fun K hK => ?_) NextJ.nil))
          · skip
            go_simp
            refine (nowhere_any _).mono ?_
            rintro e W2 ⟨rfl, hc2⟩
            have hB2 := hB1.trans (hc2.mono hB1.size)
            have h16 := h16.below' hc2
            have hs2 := hc2.size
            go_simp
            refine hK.out _ _ ((hB2.cell (p := ⟨w.heap.size, 0, none⟩) hsbl).trans hsb0) (fun h => absurd h (by decide)) ?_
            clear hK K
            try simp only [Act.put, List.getElem_toArray, List.getElem_cons_succ, List.getElem_cons_zero, List.setIfInBounds_toArray, List.set_cons_zero, List.set_cons_succ]
            have hS1 := (hB2.cell (p := ⟨w.heap.size, 0, none⟩) hsbl).trans hsb0
            refine wpAnyJ_take1 1 rfl (by kernel_rfl) (by kernel_rfl) rfl (by kernel_rfl) (fun _ _ _ h => h) (by rfl) hS1 (fun w' hSw => (by obtain hSw := hSw; go_simp; try (with_reducible rfl))) ?_
            try simp only [Act.put, List.getElem_toArray, List.getElem_cons_succ, List.getElem_cons_zero, List.setIfInBounds_toArray, List.set_cons_zero, List.set_cons_succ]
            refine wpAnyJ_ready [5] (by kernel_rfl) (by simp) (NextJ.cons rfl (fun K hK => ?_) NextJ.nil)
            · skip
              go_simp
              have hB3 := hB2.alloc hB2.size (.cells #[.int .i64 0, .int .i64 0, .int .i64 0] 95)
              have h16 := h16.alloc (.cells #[.int .i64 0, .int .i64 0, .int .i64 0] 95)
              have h15 := Blk.new W2 95 #[.int .i64 0, .int .i64 0, .int .i64 0]
              generalize W2.alloc (.cells #[.int .i64 0, .int .i64 0, .int .i64 0] 95) = W3 at *
              have hs3 : W2.heap.size < W3.heap.size := h15.lt
              refine hK.out _ _ ((hB3.cell (p := ⟨w.heap.size, 0, none⟩) hsbl).trans hsb0) (fun h => absurd h (by decide)) ?_
              clear hK K
              try simp only [Act.put, List.getElem_toArray, List.getElem_cons_succ, List.getElem_cons_zero, List.setIfInBounds_toArray, List.set_cons_zero, List.set_cons_succ]
              have hS1 := (hB3.cell (p := ⟨w.heap.size, 0, none⟩) hsbl).trans hsb0
              have hne : W2.heap.size ≠ W0.heap.size := by omega
              have g1 : wr.heap.size ≤ W2.heap.size := hB2.size
              have g2 : wr.heap.size ≤ W0.heap.size := hB0.size
              generalize W2.heap.size = n15 at *
              generalize W0.heap.size = n16 at *
              refine wpAnyJ_ready [7] (by kernel_rfl) (by simp) (NextJ.cons rfl (fun K hK => ?_) NextJ.nil)
              have q0 := h15.cell 0 _ rfl
              have q1 := h15.cell 1 _ rfl
              have q2 := h15.cell 2 _ rfl
              have f0 := h15.frozen 0
              have f1 := h15.frozen 1
              have f2 := h15.frozen 2
              have ql := h15.lt
              go_simp
              have hB7 := ((hB3.setCell (p := ⟨n15, 0, none⟩) g1 (.int .i64 0)).setCell (p := ⟨n15, 1, none⟩) g1 (.int .i64 1)).setCell (p := ⟨n15, 2, none⟩) g1 (.int .i64 0)
              have h15' := ((h15.set_ 0 (.int .i64 0)).set_ 1 (.int .i64 1)).set_ 2 (.int .i64 0)
              have h16' := ((h16.far (p := ⟨n15, 0, none⟩) (Ne.symm hne) (.int .i64 0)).far (p := ⟨n15, 1, none⟩) (Ne.symm hne) (.int .i64 1)).far (p := ⟨n15, 2, none⟩) (Ne.symm hne) (.int .i64 0)
              clear q0 q1 q2 f0 f1 f2 ql
              refine hK.out _ _ ((hB7.cell (p := ⟨w.heap.size, 0, none⟩) hsbl).trans hsb0) (fun h => absurd h (by decide)) ?_
              clear hK K
              try simp only [Act.put, List.getElem_toArray, List.getElem_cons_succ, List.getElem_cons_zero, List.setIfInBounds_toArray, List.set_cons_zero, List.set_cons_succ]
              generalize ((W3.setCell ⟨n15, 0, none⟩ (.int .i64 0)).setCell ⟨n15, 1, none⟩ (.int .i64 1)).setCell ⟨n15, 2, none⟩ (.int .i64 0) = W7 at *
              refine wpAnyJ_ready [8] (by kernel_rfl) (by simp) (NextJ.cons rfl (fun K hK => ?_) NextJ.nil)
              have q0 := h16'.cell 0 _ rfl
              have q1 := h16'.cell 1 _ rfl
              have f0 := h16'.frozen 0
              have f1 := h16'.frozen 1
              have ql := h16'.lt
              go_simp
              have hB8 := (hB7.setCell (p := ⟨n16, 0, none⟩) g2 (.int .i64 P)).setCell (p := ⟨n16, 1, none⟩) g2 (.slice none 0 0)
              have h16'' := (h16'.set_ 0 (.int .i64 P)).set_ 1 (.slice none 0 0)
              have h15'' := (h15'.far (p := ⟨n16, 0, none⟩) hne (.int .i64 P)).far (p := ⟨n16, 1, none⟩) hne (.slice none 0 0)
              refine hK.out _ _ ((hB8.cell (p := ⟨w.heap.size, 0, none⟩) hsbl).trans hsb0) (fun h => absurd h (by decide)) ?_
              clear hK K
              try simp only [Act.put, List.getElem_toArray, List.getElem_cons_succ, List.getElem_cons_zero, List.setIfInBounds_toArray, List.set_cons_zero, List.set_cons_succ]
              clear q0 q1 f0 f1 ql
              refine wpAnyJ_done (by kernel_rfl) ?_ _
              go_wp2_with fail
              go_meet
              exact ⟨n15, n16, rfl, rfl, hne, g1, g2, h15'', h16'', hB8⟩
          · skip
            go_simp
            have hB2 := hB1.alloc hB1.size (.cells #[.int .i64 0, .int .i64 0, .int .i64 0] 95)
            have h16 := h16.alloc (.cells #[.int .i64 0, .int .i64 0, .int .i64 0] 95)
            have h15 := Blk.new W1 95 #[.int .i64 0, .int .i64 0, .int .i64 0]
            generalize W1.alloc (.cells #[.int .i64 0, .int .i64 0, .int .i64 0] 95) = W2 at *
            have hs2 : W1.heap.size < W2.heap.size := h15.lt
            refine hK.out _ _ ((hB2.cell (p := ⟨w.heap.size, 0, none⟩) hsbl).trans hsb0) (fun h => absurd h (by decide)) ?_
            clear hK K
            try simp only [Act.put, List.getElem_toArray, List.getElem_cons_succ, List.getElem_cons_zero, List.setIfInBounds_toArray, List.set_cons_zero, List.set_cons_succ]
            have hS1 := (hB2.cell (p := ⟨w.heap.size, 0, none⟩) hsbl).trans hsb0
            refine wpAnyJ_ready [0] (by kernel_rfl) (by simp) (NextJ.cons rfl (fun K hK => ?_) NextJ.nil)
            · skip
              go_simp
              refine (nowhere_any _).mono ?_
              rintro e W3 ⟨rfl, hc3⟩
              have hB3 := hB2.trans (hc3.mono hB2.size)
              have h16 := h16.below' hc3
              have h15 := h15.below' hc3
              have hs3 := hc3.size
              go_simp
              refine hK.out _ _ ((hB3.cell (p := ⟨w.heap.size, 0, none⟩) hsbl).trans hsb0) (fun h => absurd h (by decide)) ?_
              clear hK K
              try simp only [Act.put, List.getElem_toArray, List.getElem_cons_succ, List.getElem_cons_zero, List.setIfInBounds_toArray, List.set_cons_zero, List.set_cons_succ]
              have hS1 := (hB3.cell (p := ⟨w.heap.size, 0, none⟩) hsbl).trans hsb0
              refine wpAnyJ_take1 1 rfl (by kernel_rfl) (by kernel_rfl) rfl (by kernel_rfl) (fun _ _ _ h => h) (by rfl) hS1 (fun w' hSw => (by obtain hSw := hSw; go_simp; try (with_reducible rfl))) ?_
              try simp only [Act.put, List.getElem_toArray, List.getElem_cons_succ, List.getElem_cons_zero, List.setIfInBounds_toArray, List.set_cons_zero, List.set_cons_succ]
              have hne : W1.heap.size ≠ W0.heap.size := by omega
              have g1 : wr.heap.size ≤ W1.heap.size := hB1.size
              have g2 : wr.heap.size ≤ W0.heap.size := hB0.size
              generalize W1.heap.size = n15 at *
              generalize W0.heap.size = n16 at *
              refine wpAnyJ_ready [7] (by kernel_rfl) (by simp) (NextJ.cons rfl (fun K hK => ?_) NextJ.nil)
              have q0 := h15.cell 0 _ rfl
              have q1 := h15.cell 1 _ rfl
              have q2 := h15.cell 2 _ rfl
              have f0 := h15.frozen 0
              have f1 := h15.frozen 1
              have f2 := h15.frozen 2
              have ql := h15.lt
              go_simp
              have hB7 := ((hB3.setCell (p := ⟨n15, 0, none⟩) g1 (.int .i64 0)).setCell (p := ⟨n15, 1, none⟩) g1 (.int .i64 1)).setCell (p := ⟨n15, 2, none⟩) g1 (.int .i64 0)
              have h15' := ((h15.set_ 0 (.int .i64 0)).set_ 1 (.int .i64 1)).set_ 2 (.int .i64 0)
              have h16' := ((h16.far (p := ⟨n15, 0, none⟩) (Ne.symm hne) (.int .i64 0)).far (p := ⟨n15, 1, none⟩) (Ne.symm hne) (.int .i64 1)).far (p := ⟨n15, 2, none⟩) (Ne.symm hne) (.int .i64 0)
              clear q0 q1 q2 f0 f1 f2 ql
              refine hK.out _ _ ((hB7.cell (p := ⟨w.heap.size, 0, none⟩) hsbl).trans hsb0) (fun h => absurd h (by decide)) ?_
              clear hK K
              try simp only [Act.put, List.getElem_toArray, List.getElem_cons_succ, List.getElem_cons_zero, List.setIfInBounds_toArray, List.set_cons_zero, List.set_cons_succ]
              generalize ((W3.setCell ⟨n15, 0, none⟩ (.int .i64 0)).setCell ⟨n15, 1, none⟩ (.int .i64 1)).setCell ⟨n15, 2, none⟩ (.int .i64 0) = W7 at *
              refine wpAnyJ_ready [8] (by kernel_rfl) (by simp) (NextJ.cons rfl (fun K hK => ?_) NextJ.nil)
              have q0 := h16'.cell 0 _ rfl
              have q1 := h16'.cell 1 _ rfl
              have f0 := h16'.frozen 0
              have f1 := h16'.frozen 1
              have ql := h16'.lt
              go_simp
              have hB8 := (hB7.setCell (p := ⟨n16, 0, none⟩) g2 (.int .i64 P)).setCell (p := ⟨n16, 1, none⟩) g2 (.slice none 0 0)
              have h16'' := (h16'.set_ 0 (.int .i64 P)).set_ 1 (.slice none 0 0)
              have h15'' := (h15'.far (p := ⟨n16, 0, none⟩) hne (.int .i64 P)).far (p := ⟨n16, 1, none⟩) hne (.slice none 0 0)
              refine hK.out _ _ ((hB8.cell (p := ⟨w.heap.size, 0, none⟩) hsbl).trans hsb0) (fun h => absurd h (by decide)) ?_
              clear hK K
              try simp only [Act.put, List.getElem_toArray, List.getElem_cons_succ, List.getElem_cons_zero, List.setIfInBounds_toArray, List.set_cons_zero, List.set_cons_succ]
              clear q0 q1 f0 f1 ql
              refine wpAnyJ_done (by kernel_rfl) ?_ _
              go_wp2_with fail
              go_meet
              exact ⟨n15, n16, rfl, rfl, hne, g1, g2, h15'', h16'', hB8⟩
      case rest =>
        obtain ⟨n15, n16, rfl, rfl, hne, g1, g2, h15, h16, hBr⟩ := hcut
        obtain ⟨s0, hs0, sz0, sz1, sz2⟩ := info_parts infoWork
        have hn15 := h15.lt
        have hn16 := h16.lt
        obtain ⟨wB, rfl⟩ : ∃ wo : World, wo = wr := ⟨_, rfl⟩
        have hown' : Own 1 nenc wB w2.heap.size 3 v (bfL l) := hown
        obtain ⟨Ab, cb, hvb, hbf, hbb⟩ := Own.rdfb hown'
        subst hvb
        have ok := planOk_bfL (P := P) (S := S) hl b1 b2 b3 HH.out
        have hMB : MapK P S l (bfL l) wB w1.heap.size 0 := hM2.same hS ⟨hM2.lt, by omega⟩
        have hPB : PlanAt wB (w1.heap.size + 1) w.heap.size w1.heap.size P S A c l Ab cb (bfL l) H :=
          ⟨hkp.cell 0 _ rfl, hkp.cell 1 _ rfl, hkp.cell 2 _ rfl, hkp.cell 3 _ rfl, hsb0, e1, (hr.below' hBw2 hH).keep (fun q hq => hS.cell (p := q) ⟨by omega, by omega⟩), by omega, by omega, hbf⟩
        have hMC := hMB.below hBr
        have hPC := hPB.same hMB (Same.of_below' hBr)
        have hmw := hMC.lt
        have hBwc : Below w.heap.size w wc := (hBw2.trans (Same.below (hS.mono (fun k hk => ⟨by omega, by omega⟩)))).trans (hBr.mono (by omega))
        have HOK := Lib.hid ok
        have hbl : (bfL l).length = l.length := bfL_len l
        have HBL := Lib.hid hbl
        have HBB := Lib.hid hbb
        clear hkp hown hown' hbf hbb hS hBr hlt hj hLF e1 hMB hPB kSr ok hbl
        have hzc := hBwc.size
        go_wp2_with fail
        go_loopg [17] l.length (fun gk _ wr => ∃ (M : List Nat) (d : Nat) (lo hi : Int) (v : Value) (cnt : Nat), Hid (bsel P S l (bfL l) l.length 0 1 0 = M ++ bsel P S l (bfL l) gk d lo hi) ∧ M.length + gk = l.length ∧ zeros l.length d = gk ∧ Hid (d < 2 ^ l.length) ∧ 0 ≤ lo ∧ lo ≤ 24 ∧ 0 ≤ hi ∧ hi ≤ 24 ∧
          Blk wr n15 95 #[.int .i64 d, .int .i64 lo, .int .i64 hi] ∧ Blk wr n16 28 #[.int .i64 P, v] ∧ Own 3 Tri.enc wr wc.heap.size 46 v (M.map (xAt l)) ∧ Hid (∀ x ∈ M, x < l.length) ∧ Hid (MapK P S l (bfL l) wr w1.heap.size cnt ∧ cnt ≤ M.length * 400000000000) ∧ Same (fun j => j < wc.heap.size ∧ j ≠ w1.heap.size ∧ j ≠ n15 ∧ j ≠ n16) wc wr)
        case atStart => exact ⟨[], 0, 1, 0, .slice none 0 0, 0, by simp [Hid], by simp, zeros_zero _, Nat.pow_pos (by omega), by omega, by omega, by omega, by omega, h15, h16, Own.nil _ _ _, by simp [Hid], ⟨hMC, by omega⟩, Same.refl _ _⟩
        case round =>
          obtain ⟨M, d, lo, hi, v, cnt, hsel, hMg, hzd, hdd, q1, q2, q3, q4, hx, ht, hownV, hMl, hMK, hS⟩ := hrel
          obtain ⟨hMr, hcnt⟩ := hMK.out
          obtain ⟨Av, cv, hv, _, _⟩ := Own.rd tri_len hownV
          have hv' : v = .slice Av M.length cv := by rw [hv]; simp
          subst hv'
          clear hv hMK
          have hSz := hS.size
          have hPr : PlanAt wr (w1.heap.size + 1) w.heap.size w1.heap.size P S A c l Ab cb (bfL l) H := by
            have k : ∀ {b o v}, wc.cell? ⟨b, o, none⟩ = some v → b ≠ n15 → b ≠ n16 → wr.cell? ⟨b, o, none⟩ = some v := fun {b o v} hc h1 h2 => (hS.cell (p := ⟨b, o, none⟩) ⟨lt_of_cell hc, hMC.ne hc, h1, h2⟩).trans hc
            refine ⟨k hPC.c0 (by omega) (by omega), k hPC.c1 (by omega) (by omega), k hPC.c2 (by omega) (by omega), k hPC.c3 (by omega) (by omega), k hPC.s0 (by omega) (by omega), k hPC.s1 (by omega) (by omega), hPC.hr.keep (fun q hq => hS.cell (p := q) ⟨by omega, by omega, by omega, by omega⟩), Nat.le_trans hPC.hH hSz, hPC.hHm, fun hl => ?_⟩
            obtain ⟨b, o, e, hc⟩ := hPC.hbf hl
            have := (HBB.out b o e).2
            exact ⟨b, o, e, fun i x hx => k (hc i x hx) (by omega) (by omega)⟩
          have t1 := ht.cell 1 _ rfl
          have tl := ht.lt
          have xl := hx.lt
          have x0 := hx.cell 0 _ rfl
          have x1 := hx.cell 1 _ rfl
          have x2 := hx.cell 2 _ rfl
          have s1 := hPr.s1
          have s1l := lt_of_cell s1
          have c2 := hPr.c2
          have c2l := lt_of_cell c2
          by_cases hlt : M.length < l.length
          · obtain ⟨F, hF⟩ : ∃ x : Int, Hid (few P S l (bfL l) d lo hi = x) := ⟨_, Lib.hid rfl⟩
            have hFb := few_bd (p := P) (s := S) (l := l) (bf := bfL l) d lo hi
            rw [hF.out] at hFb
            have hnf := not_full (n := l.length) (d := d) (by omega)
            obtain ⟨pk, hpk⟩ := pick_some (p := P) (s := S) (lo := lo) (hi := hi) (bfL_ok l) (fun k hk => by rw [bfL_get hk]; exact bfAt_lt (by omega)) hl hdd.out hnf
            have HPK := Lib.hid (pick_spec hpk)
            clear hpk hnf
            have hbls : (bfL l).length = l.length := HBL.out
            have HBLS := Lib.hid hbls
            clear hbls
            go_wp2_with (first
              | (go_at_call 48; refine (fewest10 P S l (bfL l) HOK.out (w1.heap.size + 1) w.heap.size w1.heap.size A c Ab cb H d lo hi wr cnt hdd.out q1 q2 q3 q4 hPr hMr (by omega)).mono ?_; rintro e w3 ⟨rfl, hM3, hS3⟩; rw [hF.out]
                 have hP3 := hPr.same hMr hS3
                 have c3 := hP3.c2
                 have c3l := lt_of_cell c3))
            have hx3 : Blk w3 n15 95 #[.int .i64 d, .int .i64 lo, .int .i64 hi] := hx.same hS3 ⟨xl, by omega⟩
            have ht3 : Blk w3 n16 28 #[.int .i64 P, .slice Av M.length cv] := ht.same hS3 ⟨tl, by omega⟩
            have hown3 : Own 3 Tri.enc w3 wc.heap.size 46 (.slice Av M.length cv) (M.map (xAt l)) := Own.same hownV hS3 (fun g hg => ⟨(World.ownsRow.lt hownV g hg).2, by have := (World.ownsRow.lt hownV g hg).1; omega⟩)
            have hz3 := hS3.size
            have hS3' : Same (fun j => j < wc.heap.size ∧ j ≠ w1.heap.size ∧ j ≠ n15 ∧ j ≠ n16) wc w3 := hS.trans (hS3.mono (fun k hk => ⟨by omega, hk.2.1⟩))
            clear x0 x1 x2 t1 tl xl s1 s1l c2 c2l hx ht hownV hMr hPr hS3 hS c3 c3l
            obtain ⟨wo, rfl⟩ : ∃ wo : World, wo = wr := ⟨_, rfl⟩
            go_loopw [118] (fun ix wi => ∃ i : Nat, i ≤ l.length ∧ ix = .int .i64 i ∧ Hid (∀ j, j < i → cost P S l (bfL l) d lo hi j ≠ some F) ∧ Hid (MapK P S l (bfL l) wi w1.heap.size (cnt + 30000000000 + i * 30000000000)) ∧ Same (fun j => j < w3.heap.size ∧ j ≠ w1.heap.size) w3 wi) (fun ix _ => l.length - (intOf ix).toNat)
            case atStart => exact ⟨0, by omega, rfl, fun j hj => by omega, by rw [Hid, Nat.zero_mul]; exact hM3, Same.refl _ _⟩
            case round =>
              obtain ⟨i, hil, rfl, hno, hMi, hSi⟩ := hrel
              have hMr := hMi.out
              have hPr := hP3.same hM3 hSi
              have hxr : Blk wr n15 95 #[.int .i64 d, .int .i64 lo, .int .i64 hi] := hx3.same hSi ⟨hx3.lt, by omega⟩
              have htr : Blk wr n16 28 #[.int .i64 P, .slice Av M.length cv] := ht3.same hSi ⟨ht3.lt, by omega⟩
              have x0 := hxr.cell 0 _ rfl
              have x1 := hxr.cell 1 _ rfl
              have x2 := hxr.cell 2 _ rfl
              have xl := hxr.lt
              have c2 := hPr.c2
              have c2l := lt_of_cell c2
              have hzi := hSi.size
              by_cases hin : i < l.length
              · have hib : i < (bfL l).length := by have := HBLS.out; omega
                have hbd := HH.out i hin
                have hlb10 : (bfL l).length ≤ 10 := by have := HBLS.out; omega
                have HBITS : Hid (∀ k, k < (bfL l).length → (bfL l).getD k 0 < 1024) := HOK.out.bits
                have hd10 : d < 1024 := by have := hdd.out; have := two_pow_le hl; omega
                cases hfree : freeB (bfL l) d i
                · have HF2 := Lib.hid hfree
                  clear hfree
                  go_wp2_with (first
                    | (go_at_call 49; refine (free_any (w1.heap.size + 1) (.int .i64 0) S (.int .i64 0) Ab (bfL l) cb d lo hi i wr wr.heap.size hPr.hbf.rd c2 hib hlb10 hd10 HBITS.out).mono ?_; rintro e w4 ⟨rfl, hB4⟩; rw [HF2.out]))
                  go_roundw
                  case rel =>
                    refine ⟨i + 1, by omega, by go_num, fun j hj => ?_, (hMr.below hB4).mono (by omega), hSi.step (Same.of_below' hB4)⟩
                    by_cases e : j = i
                    · subst e; rw [cost_not HF2.out]; simp
                    · exact hno.out j (by omega)
                  case measure => simp [intOf]; omega
                · have HF2 := Lib.hid hfree
                  have hbit := freeB_bit hfree
                  have hz2 := zeros_or hin hbit
                  clear hfree
                  obtain ⟨d2, hd2⟩ : ∃ x : Nat, Hid (d ||| 2 ^ i = x) := ⟨_, Lib.hid rfl⟩
                  obtain ⟨lo2, hlo2⟩ : ∃ x : Int, Hid (nlo S l[i] lo (joinB P S l[i] lo hi) = x) := ⟨_, Lib.hid rfl⟩
                  obtain ⟨hi2, hhi2⟩ : ∃ x : Int, Hid (nhi P S l[i] hi (joinB P S l[i] lo hi) = x) := ⟨_, Lib.hid rfl⟩
                  obtain ⟨c1, hc1⟩ : ∃ x : Int, Hid (nn (joinB P S l[i] lo hi) = x) := ⟨_, Lib.hid rfl⟩
                  have hbd2 := next_bd (lo := lo) (hi := hi) (j := joinB P S l[i] lo hi) b1' b2' b3' hbd.1 hbd.2 q1 q2 q3 q4
                  rw [hlo2.out, hhi2.out] at hbd2
                  have hcb := nn_bd (joinB P S l[i] lo hi)
                  rw [hc1.out] at hcb
                  rw [hd2.out] at hz2
                  have hd2b : d2 < 2 ^ l.length := by rw [← hd2.out]; exact Nat.or_lt_two_pow hdd.out (Nat.pow_lt_pow_right (by omega) hin)
                  have HNEXT : Hid (∀ w', PlanAt w' (w1.heap.size + 1) w.heap.size w1.heap.size P S A c l Ab cb (bfL l) H → Calls Tryd.prog 50 #[.pointer (some ⟨w1.heap.size + 1, 0, none⟩), .agg #[.int .i64 d, .int .i64 lo, .int .i64 hi], .int .i64 i] w' (Ret (.tuple #[.agg #[.int .i64 d2, .int .i64 lo2, .int .i64 hi2], .int .i64 c1]) w')) := fun w' hP' => by
                    have := next_any P A l c S (w1.heap.size + 1) w.heap.size (.int .i64 0) (.int .i64 0) d lo hi i w' H hP'.hr hP'.hH hP'.c0 hP'.c1 hP'.s0 hP'.s1 hin hl hd10 b1' b2' b3' hbd.1 hbd.2
                    rw [hd2.out, hlo2.out, hhi2.out, hc1.out] at this
                    exact this
                  obtain ⟨F2, hF2⟩ : ∃ x : Int, Hid (few P S l (bfL l) d2 lo2 hi2 = x) := ⟨_, Lib.hid rfl⟩
                  have hFb2 := few_bd (p := P) (s := S) (l := l) (bf := bfL l) d2 lo2 hi2
                  rw [hF2.out] at hFb2
                  have HD2 := Lib.hid hd2b
                  have HCOST := Lib.hid (cost_free (p := P) (s := S) (bf := bfL l) (d := d) (lo := lo) (hi := hi) hin HF2.out hd2.out hlo2.out hhi2.out hc1.out hF2.out)
                  have HZ2 := Lib.hid hz2
                  clear hd2b hbit hz2
                  by_cases hEq : c1 + F2 = F
                  · have tE : (c1 + F2 == F) = true := by simpa using hEq
                    have HEQ := Lib.hid hEq
                    clear hEq
                    go_wp2_with (first
                      | (go_at_call 49; refine (free_any (w1.heap.size + 1) (.int .i64 0) S (.int .i64 0) Ab (bfL l) cb d lo hi i wr wr.heap.size hPr.hbf.rd c2 hib hlb10 hd10 HBITS.out).mono ?_; rintro e w4 ⟨rfl, hB4⟩; rw [HF2.out]
                         have hP4 := hPr.same hMr (Same.of_below' hB4)
                         have hM4 := hMr.below hB4
                         have box4 := hxr.below' hB4
                         have y0 := box4.cell 0 _ rfl
                         have y1 := box4.cell 1 _ rfl
                         have y2 := box4.cell 2 _ rfl
                         have yl := box4.lt)
                      | (go_at_call 50; refine (HNEXT.out _ hP4).mono ?_; rintro e w5 ⟨rfl, hB5⟩
                         have hB5' : Below w4.heap.size w4 (w5.alloc (.cells #[.int .i64 d2, .int .i64 lo2, .int .i64 hi2] 95)) := hB5.alloc hB5.size _
                         have hP5 := hP4.same hM4 (Same.of_below' hB5')
                         have hM5 := hM4.below hB5'
                         have hY5 := Blk.new w5 95 #[.int .i64 d2, .int .i64 lo2, .int .i64 hi2]
                         have hz5 := hB5.size
                         have hz4 := hB4.size)
                      | (go_at_call 48; refine (fewest10 P S l (bfL l) HOK.out (w1.heap.size + 1) w.heap.size w1.heap.size A c Ab cb H d2 lo2 hi2 _ _ HD2.out hbd2.1 hbd2.2.1 hbd2.2.2.1 hbd2.2.2.2 hP5 hM5 (by omega)).mono ?_; rintro e W6 ⟨rfl, hM6, hSS6⟩; rw [hF2.out]
                         have hS6 := ((hSi.step (Same.of_below' hB4)).step (Same.of_below' hB5')).step hSS6
                         have hP6 := hP5.same hM5 hSS6
                         have hY6 : Blk W6 w5.heap.size 95 #[.int .i64 d2, .int .i64 lo2, .int .i64 hi2] := hY5.same hSS6 ⟨hY5.lt, by omega⟩))
                    obtain ⟨b, o, hA, hbH, a2, a3, a4⟩ := hP6.hr.tri hin
                    have a1 := hP6.s1
                    rw [hA] at a1
                    replace hA := Lib.hid hA
                    have hHm := hP6.hHm
                    have h16r : Blk W6 n16 28 #[.int .i64 P, .slice Av M.length cv] := ht3.same hS6 ⟨ht3.lt, by omega⟩
                    have h15r : Blk W6 n15 95 #[.int .i64 d, .int .i64 lo, .int .i64 hi] := hx3.same hS6 ⟨hx3.lt, by omega⟩
                    have hownV : Own 3 Tri.enc W6 wc.heap.size 46 (.slice Av M.length cv) (M.map (xAt l)) := Own.same hown3 hS6 (fun g hg => ⟨(World.ownsRow.lt hown3 g hg).2, by have := (World.ownsRow.lt hown3 g hg).1; omega⟩)
                    have hny1 : wc.heap.size ≤ w5.heap.size := by omega
                    generalize w5.heap.size = nY at *
                    have a5 := hY6.cell 0 _ rfl
                    have a6 := hY6.cell 1 _ rfl
                    have a7 := hY6.cell 2 _ rfl
                    have a8 := h16r.cell 1 _ rfl
                    have hyl := hY6.lt
                    have hz6 := hS6.size
                    have hnY := Own.ne_block hownV hY6.heap (by decide)
                    have hT6 : ∀ k, (k < wc.heap.size ∨ k = nY) → k < W6.heap.size := fun k hk => by omega
                    have hkeep : ∀ w', Same (fun j => j < wc.heap.size ∨ j = nY) W6 w' → w'.cell? ⟨w.heap.size, 1, none⟩ = some (.slice (some ⟨b, o, none⟩) l.length c) ∧ w'.cell? ⟨b, o + i * 3, none⟩ = some (.int .i64 l[i].a) ∧ w'.cell? ⟨b, o + i * 3 + 1, none⟩ = some (.int .i64 l[i].b) ∧ w'.cell? ⟨b, o + i * 3 + 2, none⟩ = some (.string l[i].s) ∧ w'.cell? ⟨nY, 0, none⟩ = some (.int .i64 d2) ∧ w'.cell? ⟨nY, 1, none⟩ = some (.int .i64 lo2) ∧ w'.cell? ⟨nY, 2, none⟩ = some (.int .i64 hi2) := fun w' hw' =>
                      ⟨(hw'.cell (p := ⟨w.heap.size, 1, none⟩) (Or.inl (by show w.heap.size < _; omega))).trans a1, (hw'.cell (p := ⟨b, _, none⟩) (Or.inl (by show b < _; omega))).trans a2, (hw'.cell (p := ⟨b, _, none⟩) (Or.inl (by show b < _; omega))).trans a3, (hw'.cell (p := ⟨b, _, none⟩) (Or.inl (by show b < _; omega))).trans a4, (hw'.cell (p := ⟨nY, _, none⟩) (Or.inr rfl)).trans a5, (hw'.cell (p := ⟨nY, _, none⟩) (Or.inr rfl)).trans a6, (hw'.cell (p := ⟨nY, _, none⟩) (Or.inr rfl)).trans a7⟩
                    have hsbwc : w.heap.size < wc.heap.size := by omega
                    have hbwc : b < wc.heap.size := by omega
                    have hMw : w1.heap.size < wc.heap.size := hmw
                    have hxl6 := h16r.lt
                    have i0' : (0 : Int) ≤ (i : Int) := by omega
                    have i1' : (i : Int) < (l.length : Int) := by omega
                    refine wp_region_J (fun w' => w'.cell? ⟨w.heap.size, 1, none⟩ = some (.slice (some ⟨b, o, none⟩) l.length c) ∧ w'.cell? ⟨b, o + i * 3, none⟩ = some (.int .i64 l[i].a) ∧ w'.cell? ⟨b, o + i * 3 + 1, none⟩ = some (.int .i64 l[i].b) ∧ w'.cell? ⟨b, o + i * 3 + 2, none⟩ = some (.string l[i].s) ∧ w'.cell? ⟨nY, 0, none⟩ = some (.int .i64 d2) ∧ w'.cell? ⟨nY, 1, none⟩ = some (.int .i64 lo2) ∧ w'.cell? ⟨nY, 2, none⟩ = some (.int .i64 hi2)) (fun w' => w'.cell? ⟨n16, 1, none⟩ = some (.slice Av M.length cv)) (fun i => i == 7) (by kernel_rfl) ?_
                    have hS1 : W6.drew.cell? ⟨w.heap.size, 1, none⟩ = some (.slice (some ⟨b, o, none⟩) l.length c) ∧ W6.drew.cell? ⟨b, o + i * 3, none⟩ = some (.int .i64 l[i].a) ∧ W6.drew.cell? ⟨b, o + i * 3 + 1, none⟩ = some (.int .i64 l[i].b) ∧ W6.drew.cell? ⟨b, o + i * 3 + 2, none⟩ = some (.string l[i].s) ∧ W6.drew.cell? ⟨nY, 0, none⟩ = some (.int .i64 d2) ∧ W6.drew.cell? ⟨nY, 1, none⟩ = some (.int .i64 lo2) ∧ W6.drew.cell? ⟨nY, 2, none⟩ = some (.int .i64 hi2) := ⟨a1, a2, a3, a4, a5, a6, a7⟩
                    have hS2 : W6.drew.cell? ⟨n16, 1, none⟩ = some (.slice Av M.length cv) := a8
                    refine wpAnyJ_take1 0 rfl (by kernel_rfl) (by kernel_rfl) rfl (by kernel_rfl) (fun _ _ _ h => h) (by rfl) hS1 (fun w' hSw => (by obtain ⟨z1, z2, z3, z4, z5, z6, z7⟩ := hSw; go_simp; try (with_reducible rfl))) ?_
                    try simp only [Act.put, List.getElem_toArray, List.getElem_cons_succ, List.getElem_cons_zero, List.setIfInBounds_toArray, List.set_cons_zero, List.set_cons_succ]
                    refine wpAnyJ_take1 2 rfl (by kernel_rfl) (by kernel_rfl) rfl (by kernel_rfl) (fun _ _ _ h => h) (by rfl) hS1 (fun w' hSw => (by obtain ⟨z1, z2, z3, z4, z5, z6, z7⟩ := hSw; go_simp; try (with_reducible rfl))) ?_
                    try simp only [Act.put, List.getElem_toArray, List.getElem_cons_succ, List.getElem_cons_zero, List.setIfInBounds_toArray, List.set_cons_zero, List.set_cons_succ]
                    refine wpAnyJ_take1 3 rfl (by kernel_rfl) (by kernel_rfl) rfl (by kernel_rfl) (fun _ _ _ h => h) (by rfl) hS1 (fun w' hSw => (by obtain ⟨z1, z2, z3, z4, z5, z6, z7⟩ := hSw; go_simp; try (with_reducible rfl))) ?_
                    try simp only [Act.put, List.getElem_toArray, List.getElem_cons_succ, List.getElem_cons_zero, List.setIfInBounds_toArray, List.set_cons_zero, List.set_cons_succ]
                    refine wpAnyJ_take1 4 rfl (by kernel_rfl) (by kernel_rfl) rfl (by kernel_rfl) (fun _ _ _ h => h) (by rfl) hS1 (fun w' hSw => (by obtain ⟨z1, z2, z3, z4, z5, z6, z7⟩ := hSw; go_simp; try (with_reducible rfl))) ?_
                    try simp only [Act.put, List.getElem_toArray, List.getElem_cons_succ, List.getElem_cons_zero, List.setIfInBounds_toArray, List.set_cons_zero, List.set_cons_succ]
                    refine wpAnyJ_take1 5 rfl (by kernel_rfl) (by kernel_rfl) rfl (by kernel_rfl) (fun _ _ _ h => h) (by rfl) hS1 (fun w' hSw => (by obtain ⟨z1, z2, z3, z4, z5, z6, z7⟩ := hSw; go_simp; try (with_reducible rfl))) ?_
                    try simp only [Act.put, List.getElem_toArray, List.getElem_cons_succ, List.getElem_cons_zero, List.setIfInBounds_toArray, List.set_cons_zero, List.set_cons_succ]
                    refine wpAnyJ_take1 6 rfl (by kernel_rfl) (by kernel_rfl) rfl (by kernel_rfl) (fun _ _ _ h => h) (by rfl) hS1 (fun w' hSw => (by obtain ⟨z1, z2, z3, z4, z5, z6, z7⟩ := hSw; go_simp; try (with_reducible rfl))) ?_
                    try simp only [Act.put, List.getElem_toArray, List.getElem_cons_succ, List.getElem_cons_zero, List.setIfInBounds_toArray, List.set_cons_zero, List.set_cons_succ]
                    refine wpAnyJ_take1 9 rfl (by kernel_rfl) (by kernel_rfl) rfl (by kernel_rfl) (fun _ _ _ h => h) (by rfl) hS1 (fun w' hSw => (by obtain ⟨z1, z2, z3, z4, z5, z6, z7⟩ := hSw; go_simp; try (with_reducible rfl))) ?_
                    try simp only [Act.put, List.getElem_toArray, List.getElem_cons_succ, List.getElem_cons_zero, List.setIfInBounds_toArray, List.set_cons_zero, List.set_cons_succ]
                    refine wpAnyJ_take2 1 rfl (by kernel_rfl) (by kernel_rfl) (by kernel_rfl) (by kernel_rfl) (fun _ _ _ h => h) (by rfl) hS1 hS2 (fun w' hSw => (by obtain ⟨⟨z1, z2, z3, z4, z5, z6, z7⟩, z8⟩ := hSw; go_simp; try (with_reducible rfl))) ?_
                    try simp only [Act.put, List.getElem_toArray, List.getElem_cons_succ, List.getElem_cons_zero, List.setIfInBounds_toArray, List.set_cons_zero, List.set_cons_succ]
                    refine wpAnyJ_ready [7] (by kernel_rfl) (by simp) (NextJ.cons rfl (fun K hK => ?_) NextJ.nil)
                    go_simp
                    have hA7 : Below W6.heap.size W6 (W6.drew.alloc (.cells #[.int .i64 l[i].a, .int .i64 l[i].b, .string l[i].s] 46)) := by (repeat' first | exact Below.refl _ _ | apply Below.drew | (refine Below.setCells ?_ _ _ ?_) | (refine Below.setCell ?_ ?_ _) | (refine Below.alloc ?_ ?_ _) | (simp; done) | (simp; omega))
                    have hS1_7 := hkeep _ (Same.of_below_T hA7 hT6)
                    refine hK.out _ _ hS1_7 (fun _ => (hA7.cell (p := ⟨n16, 1, none⟩) (lt_of_cell a8)).trans a8) ?_
                    clear hK K
                    try simp only [Act.put, List.getElem_toArray, List.getElem_cons_succ, List.getElem_cons_zero, List.setIfInBounds_toArray, List.set_cons_zero, List.set_cons_succ]
                    refine wpAnyJ_ready [8] (by kernel_rfl) (by simp) (NextJ.cons rfl (fun K hK => ?_) NextJ.nil)
                    refine step_append_tri (by rfl) (.tmp 141) (.tmp 147) _ (by rfl) wc.heap.size _ s0 _ Tryd.underlying26 hs0 sz0 sz1 sz2 rfl (.slice Av M.length cv) (M.map (xAt l)) (by rfl) ((hownV.below (Below.refl _ _).drew).alloc (.cells #[.int .i64 l[i].a, .int .i64 l[i].b, .string l[i].s] 46)) W6.heap.size l[i] (by rfl) (World.cell?_alloc_new _ _ _ 0) (World.cell?_alloc_new _ _ _ 1) (World.cell?_alloc_new _ _ _ 2) (by simp; omega) (by simp; omega) ?_
                    intro v' W8 hown8 hg8
                    obtain ⟨A8, c8, hv8, _, _⟩ := Own.rd tri_len hown8
                    subst hv8
                    have hown8' : Own 3 Tri.enc W8 wc.heap.size 46 (.slice A8 (M.length + 1) c8) (M.map (xAt l) ++ [l[i]]) := by have e0 : (M.map (xAt l) ++ [l[i]]).length = M.length + 1 := (by simp); rw [e0] at hown8; exact hown8
                    have hneV : ∀ g, g < wc.heap.size → some g ≠ (Value.slice Av M.length cv).ownBlock := fun g hg e => by have := (World.ownsRow.lt hownV g e.symm).1; omega
                    have hS8 : Same (fun j => j < wc.heap.size ∨ j = nY) W6 W8 := (Same.of_below_T hA7 hT6).trans ⟨hg8.os, hg8.tape, hg8.output, hg8.size, fun k hk => hg8.block k (by simp; rcases hk with hk | hk <;> omega) (fun e => by rcases hk with hk | hk; exact hneV k hk e; subst hk; exact hnY e)⟩
                    have hS1_8 := hkeep _ hS8
                    refine hK.out _ _ hS1_8 (fun h => absurd h (by decide)) ?_
                    clear hK K
                    try simp only [Act.put, List.getElem_toArray, List.getElem_cons_succ, List.getElem_cons_zero, List.setIfInBounds_toArray, List.set_cons_zero, List.set_cons_succ]
                    refine wpAnyJ_take1 10 rfl (by kernel_rfl) (by kernel_rfl) rfl (by kernel_rfl) (fun _ _ _ h => h) (by rfl) hS1_8 (fun w' hSw => (by obtain ⟨z1, z2, z3, z4, z5, z6, z7⟩ := hSw; go_simp; try (with_reducible rfl))) ?_
                    try simp only [Act.put, List.getElem_toArray, List.getElem_cons_succ, List.getElem_cons_zero, List.setIfInBounds_toArray, List.set_cons_zero, List.set_cons_succ]
                    refine wpAnyJ_ready [11] (by kernel_rfl) (by simp) (NextJ.cons rfl (fun K hK => ?_) NextJ.nil)
                    have k8 := h16r.same hS8 (Or.inl hn16)
                    have x8 := h15r.same hS8 (Or.inl hn15)
                    have q0 := k8.cell 1 _ rfl
                    have f0 := k8.frozen 1
                    have ql := k8.lt
                    go_simp
                    have k9 := k8.set_ 1 (.slice A8 (M.length + 1) c8)
                    have x9 := x8.far (p := ⟨n16, 1, none⟩) hne (.slice A8 (M.length + 1) c8)
                    have y9 := (hS1_8)
                    obtain ⟨y1, y2, y3, y4, y5, y6, y7⟩ := y9
                    have hS1_9 := And.intro ((World.cell?_setCell_other W8 ⟨n16, 1, none⟩ ⟨w.heap.size, 1, none⟩ (.slice A8 (M.length + 1) c8) (fun e => by simp only [Addr.mk.injEq] at e; omega)).trans y1) (And.intro ((World.cell?_setCell_other W8 ⟨n16, 1, none⟩ ⟨b, o + i * 3, none⟩ (.slice A8 (M.length + 1) c8) (fun e => by simp only [Addr.mk.injEq] at e; omega)).trans y2) (And.intro ((World.cell?_setCell_other W8 ⟨n16, 1, none⟩ ⟨b, o + i * 3 + 1, none⟩ (.slice A8 (M.length + 1) c8) (fun e => by simp only [Addr.mk.injEq] at e; omega)).trans y3) (And.intro ((World.cell?_setCell_other W8 ⟨n16, 1, none⟩ ⟨b, o + i * 3 + 2, none⟩ (.slice A8 (M.length + 1) c8) (fun e => by simp only [Addr.mk.injEq] at e; omega)).trans y4) (And.intro ((World.cell?_setCell_other W8 ⟨n16, 1, none⟩ ⟨nY, 0, none⟩ (.slice A8 (M.length + 1) c8) (fun e => by simp only [Addr.mk.injEq] at e; omega)).trans y5) (And.intro ((World.cell?_setCell_other W8 ⟨n16, 1, none⟩ ⟨nY, 1, none⟩ (.slice A8 (M.length + 1) c8) (fun e => by simp only [Addr.mk.injEq] at e; omega)).trans y6) ((World.cell?_setCell_other W8 ⟨n16, 1, none⟩ ⟨nY, 2, none⟩ (.slice A8 (M.length + 1) c8) (fun e => by simp only [Addr.mk.injEq] at e; omega)).trans y7))))))
                    refine hK.out _ _ hS1_9 (fun h => absurd h (by decide)) ?_
                    clear hK K
                    try simp only [Act.put, List.getElem_toArray, List.getElem_cons_succ, List.getElem_cons_zero, List.setIfInBounds_toArray, List.set_cons_zero, List.set_cons_succ]
                    have hown9 := Own.far hown8' (p := ⟨n16, 1, none⟩) hn16 (.slice A8 (M.length + 1) c8)
                    have hS9 := hS8.mono (T := fun j => (j < wc.heap.size ∨ j = nY) ∧ j ≠ n16 ∧ j ≠ n15) (fun k hk => hk.1) |>.setCell (p := ⟨n16, 1, none⟩) (fun e => e.2.1 rfl) (.slice A8 (M.length + 1) c8)
                    generalize W8.setCell ⟨n16, 1, none⟩ (.slice A8 (M.length + 1) c8) = W9 at *
                    refine wpAnyJ_ready [12] (by kernel_rfl) (by simp) (NextJ.cons rfl (fun K hK => ?_) NextJ.nil)
                    have q0 := x9.cell 0 _ rfl
                    have q1 := x9.cell 1 _ rfl
                    have q2 := x9.cell 2 _ rfl
                    have f0 := x9.frozen 0
                    have f1 := x9.frozen 1
                    have f2 := x9.frozen 2
                    have ql := x9.lt
                    go_simp
                    have x10 := ((x9.set_ 0 (.int .i64 d2)).set_ 1 (.int .i64 lo2)).set_ 2 (.int .i64 hi2)
                    have k10 := ((k9.far (p := ⟨n15, 0, none⟩) (Ne.symm hne) (.int .i64 d2)).far (p := ⟨n15, 1, none⟩) (Ne.symm hne) (.int .i64 lo2)).far (p := ⟨n15, 2, none⟩) (Ne.symm hne) (.int .i64 hi2)
                    have hown10 := ((Own.far (Own.far (Own.far hown9 (p := ⟨n15, 0, none⟩) hn15 (.int .i64 d2)) (p := ⟨n15, 1, none⟩) hn15 (.int .i64 lo2)) (p := ⟨n15, 2, none⟩) hn15 (.int .i64 hi2)))
                    have hS10 := ((hS9.setCell (p := ⟨n15, 0, none⟩) (fun e => e.2.2 rfl) (.int .i64 d2)).setCell (p := ⟨n15, 1, none⟩) (fun e => e.2.2 rfl) (.int .i64 lo2)).setCell (p := ⟨n15, 2, none⟩) (fun e => e.2.2 rfl) (.int .i64 hi2)
                    obtain ⟨u1, u2, u3, u4, u5, u6, u7⟩ := hS1_9
                    have hS1_10 := And.intro ((World.cell?_setCell_other (((W9).setCell ⟨n15, 0, none⟩ (.int .i64 d2)).setCell ⟨n15, 1, none⟩ (.int .i64 lo2)) ⟨n15, 2, none⟩ ⟨w.heap.size, 1, none⟩ (.int .i64 hi2) (fun e => by simp only [Addr.mk.injEq] at e; omega)).trans ((World.cell?_setCell_other ((W9).setCell ⟨n15, 0, none⟩ (.int .i64 d2)) ⟨n15, 1, none⟩ ⟨w.heap.size, 1, none⟩ (.int .i64 lo2) (fun e => by simp only [Addr.mk.injEq] at e; omega)).trans ((World.cell?_setCell_other (W9) ⟨n15, 0, none⟩ ⟨w.heap.size, 1, none⟩ (.int .i64 d2) (fun e => by simp only [Addr.mk.injEq] at e; omega)).trans (u1)))) (And.intro ((World.cell?_setCell_other (((W9).setCell ⟨n15, 0, none⟩ (.int .i64 d2)).setCell ⟨n15, 1, none⟩ (.int .i64 lo2)) ⟨n15, 2, none⟩ ⟨b, o + i * 3, none⟩ (.int .i64 hi2) (fun e => by simp only [Addr.mk.injEq] at e; omega)).trans ((World.cell?_setCell_other ((W9).setCell ⟨n15, 0, none⟩ (.int .i64 d2)) ⟨n15, 1, none⟩ ⟨b, o + i * 3, none⟩ (.int .i64 lo2) (fun e => by simp only [Addr.mk.injEq] at e; omega)).trans ((World.cell?_setCell_other (W9) ⟨n15, 0, none⟩ ⟨b, o + i * 3, none⟩ (.int .i64 d2) (fun e => by simp only [Addr.mk.injEq] at e; omega)).trans (u2)))) (And.intro ((World.cell?_setCell_other (((W9).setCell ⟨n15, 0, none⟩ (.int .i64 d2)).setCell ⟨n15, 1, none⟩ (.int .i64 lo2)) ⟨n15, 2, none⟩ ⟨b, o + i * 3 + 1, none⟩ (.int .i64 hi2) (fun e => by simp only [Addr.mk.injEq] at e; omega)).trans ((World.cell?_setCell_other ((W9).setCell ⟨n15, 0, none⟩ (.int .i64 d2)) ⟨n15, 1, none⟩ ⟨b, o + i * 3 + 1, none⟩ (.int .i64 lo2) (fun e => by simp only [Addr.mk.injEq] at e; omega)).trans ((World.cell?_setCell_other (W9) ⟨n15, 0, none⟩ ⟨b, o + i * 3 + 1, none⟩ (.int .i64 d2) (fun e => by simp only [Addr.mk.injEq] at e; omega)).trans (u3)))) (And.intro ((World.cell?_setCell_other (((W9).setCell ⟨n15, 0, none⟩ (.int .i64 d2)).setCell ⟨n15, 1, none⟩ (.int .i64 lo2)) ⟨n15, 2, none⟩ ⟨b, o + i * 3 + 2, none⟩ (.int .i64 hi2) (fun e => by simp only [Addr.mk.injEq] at e; omega)).trans ((World.cell?_setCell_other ((W9).setCell ⟨n15, 0, none⟩ (.int .i64 d2)) ⟨n15, 1, none⟩ ⟨b, o + i * 3 + 2, none⟩ (.int .i64 lo2) (fun e => by simp only [Addr.mk.injEq] at e; omega)).trans ((World.cell?_setCell_other (W9) ⟨n15, 0, none⟩ ⟨b, o + i * 3 + 2, none⟩ (.int .i64 d2) (fun e => by simp only [Addr.mk.injEq] at e; omega)).trans (u4)))) (And.intro ((World.cell?_setCell_other (((W9).setCell ⟨n15, 0, none⟩ (.int .i64 d2)).setCell ⟨n15, 1, none⟩ (.int .i64 lo2)) ⟨n15, 2, none⟩ ⟨nY, 0, none⟩ (.int .i64 hi2) (fun e => by simp only [Addr.mk.injEq] at e; omega)).trans ((World.cell?_setCell_other ((W9).setCell ⟨n15, 0, none⟩ (.int .i64 d2)) ⟨n15, 1, none⟩ ⟨nY, 0, none⟩ (.int .i64 lo2) (fun e => by simp only [Addr.mk.injEq] at e; omega)).trans ((World.cell?_setCell_other (W9) ⟨n15, 0, none⟩ ⟨nY, 0, none⟩ (.int .i64 d2) (fun e => by simp only [Addr.mk.injEq] at e; omega)).trans (u5)))) (And.intro ((World.cell?_setCell_other (((W9).setCell ⟨n15, 0, none⟩ (.int .i64 d2)).setCell ⟨n15, 1, none⟩ (.int .i64 lo2)) ⟨n15, 2, none⟩ ⟨nY, 1, none⟩ (.int .i64 hi2) (fun e => by simp only [Addr.mk.injEq] at e; omega)).trans ((World.cell?_setCell_other ((W9).setCell ⟨n15, 0, none⟩ (.int .i64 d2)) ⟨n15, 1, none⟩ ⟨nY, 1, none⟩ (.int .i64 lo2) (fun e => by simp only [Addr.mk.injEq] at e; omega)).trans ((World.cell?_setCell_other (W9) ⟨n15, 0, none⟩ ⟨nY, 1, none⟩ (.int .i64 d2) (fun e => by simp only [Addr.mk.injEq] at e; omega)).trans (u6)))) ((World.cell?_setCell_other (((W9).setCell ⟨n15, 0, none⟩ (.int .i64 d2)).setCell ⟨n15, 1, none⟩ (.int .i64 lo2)) ⟨n15, 2, none⟩ ⟨nY, 2, none⟩ (.int .i64 hi2) (fun e => by simp only [Addr.mk.injEq] at e; omega)).trans ((World.cell?_setCell_other ((W9).setCell ⟨n15, 0, none⟩ (.int .i64 d2)) ⟨n15, 1, none⟩ ⟨nY, 2, none⟩ (.int .i64 lo2) (fun e => by simp only [Addr.mk.injEq] at e; omega)).trans ((World.cell?_setCell_other (W9) ⟨n15, 0, none⟩ ⟨nY, 2, none⟩ (.int .i64 d2) (fun e => by simp only [Addr.mk.injEq] at e; omega)).trans (u7)))))))))
                    refine hK.out _ _ hS1_10 (fun h => absurd h (by decide)) ?_
                    clear hK K
                    try simp only [Act.put, List.getElem_toArray, List.getElem_cons_succ, List.getElem_cons_zero, List.setIfInBounds_toArray, List.set_cons_zero, List.set_cons_succ]
                    refine wpAnyJ_done (by kernel_rfl) ?_ _
                    go_wp2_with fail
                    go_roundg (gk - 1)
                    case measure => omega
                    case rel =>
                      have hpick := pick_of (p := P) (s := S) (bf := bfL l) hin (by rw [HCOST.out, HEQ.out, hF.out]) (fun j hj => by rw [hF.out]; exact hno.out j hj)
                      have hstep := bsel_step (k := gk) (by omega) hpick hin hd2.out hlo2.out hhi2.out
                      have hzz := HZ2.out
                      refine ⟨M ++ [i], d2, lo2, hi2, _, _, by rw [Hid, hsel.out, hstep]; simp, by simp; omega, by omega, HD2.out, hbd2.1, hbd2.2.1, hbd2.2.2.1, hbd2.2.2.2, x10, k10, ?_, ?_, ⟨hM6.same hS10 ⟨Or.inl hMw, by omega, by omega⟩, ?_⟩, ?_⟩
                      · rw [List.map_append, List.map_cons, List.map_nil, xAt_of hin]; exact hown10
                      · intro x hx
                        rcases List.mem_append.1 hx with hx | hx
                        · exact hMl.out x hx
                        · simp at hx; subst hx; exact hin
                      · simp; omega
                      · exact (hS3'.trans (hS6.mono (fun k hk => ⟨by omega, hk.2.1⟩))).trans (hS10.mono (fun k hk => ⟨Or.inl hk.1, hk.2.2.2, hk.2.2.1⟩))
                  · have tE : (c1 + F2 == F) = false := by simpa using hEq
                    have HEQ := Lib.hid hEq
                    clear hEq
                    go_wp2_with (first
                      | (go_at_call 49; refine (free_any (w1.heap.size + 1) (.int .i64 0) S (.int .i64 0) Ab (bfL l) cb d lo hi i wr wr.heap.size hPr.hbf.rd c2 hib hlb10 hd10 HBITS.out).mono ?_; rintro e w4 ⟨rfl, hB4⟩; rw [HF2.out]
                         have hP4 := hPr.same hMr (Same.of_below' hB4)
                         have hM4 := hMr.below hB4
                         have box4 := hxr.below' hB4
                         have y0 := box4.cell 0 _ rfl
                         have y1 := box4.cell 1 _ rfl
                         have y2 := box4.cell 2 _ rfl
                         have yl := box4.lt)
                      | (go_at_call 50; refine (HNEXT.out _ hP4).mono ?_; rintro e w5 ⟨rfl, hB5⟩
                         have hB5' : Below w4.heap.size w4 (w5.alloc (.cells #[.int .i64 d2, .int .i64 lo2, .int .i64 hi2] 95)) := hB5.alloc hB5.size _
                         have hP5 := hP4.same hM4 (Same.of_below' hB5')
                         have hM5 := hM4.below hB5'
                         have hY5 := Blk.new w5 95 #[.int .i64 d2, .int .i64 lo2, .int .i64 hi2]
                         have hz5 := hB5.size
                         have hz4 := hB4.size)
                      | (go_at_call 48; refine (fewest10 P S l (bfL l) HOK.out (w1.heap.size + 1) w.heap.size w1.heap.size A c Ab cb H d2 lo2 hi2 _ _ HD2.out hbd2.1 hbd2.2.1 hbd2.2.2.1 hbd2.2.2.2 hP5 hM5 (by omega)).mono ?_; rintro e W6 ⟨rfl, hM6, hSS6⟩; rw [hF2.out]
                         have hS6 := ((hSi.step (Same.of_below' hB4)).step (Same.of_below' hB5')).step hSS6
                         have hP6 := hP5.same hM5 hSS6
                         have hY6 : Blk W6 w5.heap.size 95 #[.int .i64 d2, .int .i64 lo2, .int .i64 hi2] := hY5.same hSS6 ⟨hY5.lt, by omega⟩))
                    go_roundw
                    case rel =>
                      refine ⟨i + 1, by omega, by go_num, fun j hj => ?_, hM6.mono (by omega), hS6⟩
                      by_cases e : j = i
                      · subst e; rw [HCOST.out]; simpa using HEQ.out
                      · exact hno.out j (by omega)
                    case measure => simp [intOf]; omega
              · exfalso
                have e : i = l.length := by omega
                obtain ⟨h1, h2, _⟩ := HPK.out
                exact hno.out pk (by omega) (by rw [← hF.out]; exact h2)
          · have hg0 : gk = 0 := by omega
            subst hg0
            have hMB : bsel P S l (bfL l) l.length 0 1 0 = M := by rw [hsel.out, bsel]; simp
            have HMB := Lib.hid hMB
            obtain ⟨A9, c9, hv9, _, hRd⟩ := Own.rd tri_len hownV
            simp only [List.length_map, Value.slice.injEq, true_and] at hv9
            obtain ⟨rfl, rfl⟩ := hv9
            have t0 := ht.cell 0 _ rfl
            have t1' : wr.cell? ⟨n16, 0 + 1, none⟩ = some (.slice Av (M.map (xAt l)).length cv) := by rw [List.length_map]; exact t1
            have hbb : ∀ (k : Nat) (hk : k < (M.map (xAt l)).length), 0 ≤ (M.map (xAt l))[k].b ∧ (M.map (xAt l))[k].b ≤ (P : Int) - 2 := fun k hk => by
              have hk' : k < M.length := by simpa using hk
              have hx' := hMl.out M[k] (List.getElem_mem hk')
              rw [List.getElem_map, xAt_of hx']
              exact HH.out _ hx'
            have HBB2 := Lib.hid hbb
            have HT1 := Lib.hid t1'
            clear hMB hbb t1'
            go_wp2_with (first
              | (go_at_call 30; refine (csteps_any P Av (M.map (xAt l)) cv S n16 0 wr wr.heap.size hRd (Nat.le_refl _) t0 HT1.out HBB2.out (by simp; omega) b1' b2' b3').mono ?_; rintro e w9 ⟨vv, rfl, hownF, hBF⟩))
            go_ret2
            exact ⟨vv, rfl, by rw [HMB.out]; exact hownF.base (by omega), (hBwc.trans (Same.below (hS.mono (fun k hk => ⟨by omega, by omega, by omega, by omega⟩)))).trans (hBF.mono (by omega))⟩
end Go.Proofs.YtogkgoabonbkkaaDoor
