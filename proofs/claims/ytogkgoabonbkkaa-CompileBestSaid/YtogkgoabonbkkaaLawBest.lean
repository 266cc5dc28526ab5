/- torchonref15.Best; the law CompileBest, walked. -/
import Derived.Test.YtogkgoabonbkkaaRPlan
set_option linter.unusedSimpArgs false
set_option linter.unusedVariables false
namespace Go.Proofs.Ytogkgoabonbkkaa
open Go Go.RowKit Tor

/-- a row of numbers -/
def slenc (g : Nat) : List Value := [.slice (some ⟨g, 0, none⟩) 577 577]
theorem slenc_len (g : Nat) : (slenc g).length = 1 := rfl
theorem infoInts : (Try.prog.info? 43).map (fun i => (i.zero, i.size, i.bytes)) = some (some (.slice none 0 0), 1, 24) := by kernel_rfl
/-- the rows stand, nothing is known -/
structure Fresh (w : World) (pb : Nat) (R : List Nat) : Prop where
  blk : ∀ r ∈ R, ∃ cs, Blk w r 3 cs ∧ cs.size = 577 ∧ ∀ k, k < 577 → cs[k]? = some (.int .i64 (-1))
  nd : R.Nodup
  lt : ∀ r ∈ R, pb < r ∧ r < w.heap.size
theorem Fresh.same {w w' : World} {pb : Nat} {R : List Nat} {T : Nat → Prop} (h : Fresh w pb R) (hS : Same T w w') (hT : ∀ r ∈ R, T r) : Fresh w' pb R :=
  ⟨fun r hr => by
    obtain ⟨cs, h1, h2⟩ := h.blk r hr
    exact ⟨cs, h1.same hS (hT r hr), h2⟩, h.nd, fun r hr => ⟨(h.lt r hr).1, Nat.lt_of_lt_of_le (h.lt r hr).2 hS.size⟩⟩
theorem Fresh.keep {w w' : World} {pb : Nat} {R : List Nat} (h : Fresh w pb R) (hB : Below w.heap.size w w') : Fresh w' pb R := h.same (Same.of_below hB) fun r hr => (h.lt r hr).2
theorem Fresh.snoc {w : World} {pb : Nat} {R : List Nat} {g : Nat} {cs : Array Value} (h : Fresh w pb R) (hg : Blk w g 3 cs) (hs : cs.size = 577) (hv : ∀ k, k < 577 → cs[k]? = some (.int .i64 (-1))) (hp : pb < g) (hn : g ∉ R) : Fresh w pb (R ++ [g]) :=
  ⟨fun r hr => by
    rcases List.mem_append.1 hr with hr | hr
    · exact h.blk r hr
    · simp at hr; subst hr; exact ⟨cs, hg, hs, hv⟩, by
    rw [List.nodup_append]
    exact ⟨h.nd, by simp, fun x hx y hy e => by simp at hy; subst hy; subst e; exact hn hx⟩, fun r hr => by
    rcases List.mem_append.1 hr with hr | hr
    · exact h.lt r hr
    · simp at hr; subst hr; exact ⟨hp, hg.lt⟩⟩

theorem Fresh.grown {w w' : World} {pb base : Nat} {R Q : List Nat} {v : Value} (h : Fresh w pb R) (hO : Own 1 slenc w base 43 v Q) (hg : w.grownBy w' v.ownBlock) : Fresh w' pb R :=
  ⟨fun r hr => by
    obtain ⟨cs, h1, h2⟩ := h.blk r hr
    exact ⟨cs, h1.grown hg (Own.ne_block hO h1 (by decide)), h2⟩, h.nd, fun r hr => ⟨(h.lt r hr).1, Nat.lt_of_lt_of_le (h.lt r hr).2 hg.size⟩⟩
theorem Fresh.set_ {w : World} {pb : Nat} {R : List Nat} (h : Fresh w pb R) (i : Nat) (v : Value) : Fresh (w.setCell ⟨pb, i, none⟩ v) pb R :=
  ⟨fun r hr => by
    obtain ⟨cs, h1, h2⟩ := h.blk r hr
    exact ⟨cs, h1.far (fun e => by have := (h.lt r hr).1; have e' : r = pb := e; omega) _, h2⟩, h.nd, fun r hr => ⟨(h.lt r hr).1, by simpa using (h.lt r hr).2⟩⟩

theorem PlanK.same {w w' : World} {pb kb ko kc : Nat} {R : List Nat} {p s : Int} {A : Option Addr} {l : List Tri} {c H : Nat} {T : Nat → Prop} (h : PlanK w pb kb ko kc R p s A l c H) (hS : Same T w w') (h1 : T pb) (h2 : T kb) (h3 : ∀ r ∈ R, T r) (h4 : ∀ b, b < H → T b) : PlanK w' pb kb ko kc R p s A l c H :=
  ⟨Blk.same h.hP hS h1, ⟨fun i hi => (hS.cell (p := ⟨kb, _, none⟩) h2).trans (h.hK.row i hi), fun i hi => by
    obtain ⟨cs, g1, g2⟩ := h.hK.blk i hi
    exact ⟨cs, g1.same hS (h3 _ (List.getElem_mem hi)), g2⟩, h.hK.nd, h.hK.ne⟩, h.hpb, h.hr.keep fun q hq => hS.cell (p := q) (h4 _ hq), Nat.le_trans h.hH hS.size, h.hHR⟩

/-- the planner at the start -/
theorem planK_start {w : World} {pb base : Nat} {R : List Nat} {p s : Int} {A : Option Addr} {l : List Tri} {c H : Nat} {v : Value} (hP : PlanR w pb p s A l c v) (hO : Own 1 slenc w base 43 v R) (hF : Fresh w pb R) (hR : R.length = 2 ^ l.length) (hr : RdT w H A l) (hH : H ≤ w.heap.size) (hHp : H ≤ pb) :
    ∃ kb kc, PlanK w pb kb 0 kc R p s A l c H := by
  have hpos : 0 < R.length := by rw [hR]; exact Nat.two_pow_pos _
  rcases hO.2 with ⟨_, h0⟩ | ⟨g, cap, cur, hv, hb, hg, hnc, hcm, hcs, htk⟩
  · omega
  · subst hv
    obtain ⟨A', c', e, _, hrd⟩ := Own.rd slenc_len hO
    injection e with e1 _ e3
    subst e1
    subst e3
    obtain ⟨b', o', e', _, hc⟩ := hrd (by intro e; rw [e] at hpos; simp at hpos)
    injection e' with e'
    injection e' with e4 e5 _
    subst e4; subst e5
    refine ⟨g, cap, hP, ⟨fun i hi => ?_, fun i hi => ?_, hF.nd, fun hin => ?_⟩, fun hin => Nat.lt_irrefl _ (hF.lt _ hin).1, hr, hH, fun r hr' => by have := (hF.lt r hr').1; omega⟩
    · have := hc i R[i] (List.getElem?_eq_getElem hi) 0 _ rfl
      simpa using this
    · obtain ⟨cs, h1, h2, h3⟩ := hF.blk R[i] (List.getElem_mem hi)
      exact ⟨cs, h1, h2, fun k hk => ⟨-1, h3 k hk, Or.inl rfl⟩⟩
    · obtain ⟨cs, h1, _⟩ := hF.blk g hin
      unfold Blk at h1
      rw [hg] at h1
      simp at h1

theorem _root_.Tor.Own.rdT' {w : World} {base : Nat} {e : TypeId} {A : Option Addr} {n c : Nat} {l : List Tri} (h : Own 3 Tri.enc w base e (.slice A n c) l) : RdT w w.heap.size A l := by
  obtain ⟨A', c', e, _, hr⟩ := Own.rd tri_len h
  injection e with e1 _ _
  rw [e1]; exact hr

set_option maxRecDepth 100000 in
set_option maxHeartbeats 4000000 in
theorem rBest_ok (P S : Nat) (A : Option Addr) (l : List Tri) (c : Nat) (w : World) (H : Nat) (hr : RdT w H A l) (hH : H ≤ w.heap.size)
    (hwk : ∀ x ∈ l, WOk P x) (hchk : chkE P l S = 0) (hl : l.length ≤ 10) :
    Calls Try.prog 16 #[.agg #[.int .i64 P, .slice A l.length c], .int .i64 S] w fun e w' => ∃ v, e = .returned (.tuple #[v, .int .i64 0]) ∧ Own 3 Tri.enc w' w.heap.size 63 v (rst P S ((bestO P S l).map (xAt l)) (-1)) ∧ Below w.heap.size w w' := by
  obtain ⟨i0, hi0, hz0', hz1', hz2'⟩ := info_parts infoInt
  obtain ⟨j0, hj0, hy0, hy1, hy2⟩ := info_parts infoInts
  obtain ⟨u0, hu0, hx0, hx1, hx2⟩ := info_parts infoWork
  have g := good_of hchk
  have hok : NumOk P S l := ⟨hl, g.b1, g.b2, g.b3, wok_b hwk⟩
  have HOK := Lib.hid hok
  have HC := Lib.hid hchk
  have HW := Lib.hid (wok_words hwk)
  have HK := Lib.hid hwk
  have h2p := two_pow_le hl
  obtain ⟨M, hMp⟩ : ∃ M : Nat, Hid (2 ^ l.length = M) := ⟨_, Lib.hid rfl⟩
  rw [hMp.out] at h2p
  have hw2 : IntKind.i64.wrap (2 ^ l.length) = (M : Int) := by
    rw [show ((2 : Int) ^ l.length) = ((2 ^ l.length : Nat) : Int) by simp, hMp.out]
    exact IntWalk.i64_in _ (by omega)
  have i2 : (l.length : Int) ≤ 64 := by omega
  have i3 : (0 : Int) ≤ (l.length : Int) := by omega
  have t10 : ¬ (10 : Int) < (l.length : Int) := by omega
  clear hchk hwk g hok
  go_enter Try.func16, Try.ntmps16
  go_wp2_with (first
    | (go_at_call 41; refine (rcheck_any P A l c S _ H (hr.below' (B' := w.heap.size) (by (repeat' first | exact Below.refl _ _ | apply Below.drew | (refine Below.setCells ?_ _ _ ?_) | (refine Below.setCell ?_ ?_ _) | (refine Below.alloc ?_ ?_ _) | (simp; done) | (simp; omega))) hH) (by simp; omega) HW.out (by omega)).mono ?_; rintro e w1 ⟨rfl, hB1⟩; rw [HC.out]
       have kS := (Blk.new w 24 #[.int .i64 P, .slice A l.length c]).below' hB1
       have c0 := kS.cell 0 (.int .i64 P) rfl
       have c1 := kS.cell 1 (.slice A l.length c) rfl
       have n1 := kS.lt
       have hBw : Below w.heap.size w w1 := Below.trans (b := w.alloc (.cells #[.int .i64 P, .slice A l.length c] 24)) (by (repeat' first | exact Below.refl _ _ | apply Below.drew | (refine Below.setCells ?_ _ _ ?_) | (refine Below.setCell ?_ ?_ _) | (refine Below.alloc ?_ ?_ _) | (simp; done) | (simp; omega))) (hB1.mono (by simp)))
    | fail)
  clear c0 c1
  obtain ⟨w0, rfl⟩ : ∃ w0 : World, w0 = w1 := ⟨_, rfl⟩
  go_loopw [8] (fun sv wr => ∃ (j : Nat) (R : List Nat) (v : Value), j ≤ M ∧ sv = .int .i64 j ∧ R.length = j ∧ PlanR wr w0.heap.size P S A l c v ∧ Own 1 slenc wr (w0.heap.size + 1) 43 v R ∧ Fresh wr w0.heap.size R ∧ Below w0.heap.size w0 wr) (fun sv _ => M - (intOf sv).toNat)
  case atStart => exact ⟨0, [], .slice none 0 0, Nat.zero_le _, rfl, rfl, Blk.new _ _ _, Own.nil _ _ _, ⟨by simp, List.nodup_nil, by simp⟩, (Below.refl _ _).alloc (Nat.le_refl _) _⟩
  case round =>
    obtain ⟨j, R, v, hj, rfl, hRl, hP, hown, hF, hB⟩ := hrel
    have HRL := Lib.hid hRl
    have hRle : R.length ≤ 1024 := by omega
    clear hRl
    have kS2 := kS.below hB n1
    have c1 := kS2.cell 1 (.slice A l.length c) rfl
    have c0 := kS2.cell 0 _ rfl
    have n2 := kS2.lt
    have hBr : Below w.heap.size w wr := hBw.trans (hB.mono (by omega))
    have hzr := hB.size
    have pl := Blk.lt hP
    by_cases hjM : j < M
    · have k1 : (j : Int) < (M : Int) := by omega
      go_wp2_with (first
        | (at_make; refine wpList_make_full _ rfl _ _ _ rfl (w0.heap.size + 1) _ i0 _ 1 Try.underlying43 hi0 hz0' hz1' .i64 .i64 _ _ 577 rfl rfl rfl rfl (by rw [hz2']; omega) (by unfold maxLen; omega) (by omega) ?_; intro w2 hown2 hg2
           have hB2 : Below wr.heap.size wr w2 := ⟨hg2.os, hg2.tape, hg2.output, hg2.size, fun k hk => hg2.block k hk (by simp)⟩
           have hbk : ∃ cs, Blk w2 wr.heap.size 3 cs ∧ cs.size = 577 := by
             rcases hown2.2 with ⟨h, _⟩ | ⟨gq, cap, cur, h, _, hg, _, _, hcs, _⟩
             · simp at h
             · simp only [Value.slice.injEq, Option.some.injEq, Addr.mk.injEq, and_true, true_and] at h
               obtain ⟨rfl, rfl⟩ := h
               exact ⟨cur, hg, by omega⟩
           have HBK := Lib.hid hbk
           clear hbk hown2 hg2)
        | fail)
      obtain ⟨wo, rfl⟩ : ∃ wo : World, wo = wr := ⟨_, rfl⟩
      obtain ⟨cs0, hcs0, hsz0⟩ := HBK.out
      go_loopw [10] (fun kv wr => ∃ (k : Nat) (cs : Array Value), k ≤ 577 ∧ kv = .int .i64 k ∧ Hid (Blk wr wo.heap.size 3 cs) ∧ Hid (cs.size = 577) ∧ Hid (∀ q, q < k → cs[q]? = some (.int .i64 (-1))) ∧ Same (fun b => b < w2.heap.size ∧ b ≠ wo.heap.size) w2 wr) (fun kv _ => 577 - (intOf kv).toNat)
      case atStart => exact ⟨0, cs0, by omega, rfl, hcs0, hsz0, fun q hq => by omega, Same.refl _ _⟩
      case round =>
        obtain ⟨k, cs, hk, rfl, hblk, hsz, hval, hS⟩ := hrel
        by_cases hk7 : k < 577
        · have k2 : (k : Int) < 577 := by omega
          have k3 : (0 : Int) ≤ (k : Int) := by omega
          have hcell := hblk.out.cell k _ (Array.getElem?_eq_getElem (show k < cs.size by rw [hsz.out]; exact hk7))
          have hfrz := hblk.out.frozen k
          have hlt := hblk.out.lt
          have hset := Lib.hid (hblk.out.set_ k (.int .i64 (-1)))
          go_wp2_with fail
          go_roundw
          case rel =>
            refine ⟨k + 1, _, by omega, by go_num, hset, by rw [Hid, Array.size_setIfInBounds]; exact hsz.out, fun q hq => ?_, Same.setCell hS (fun e => e.2 rfl) _⟩
            by_cases e : q = k
            · subst e
              rw [Array.getElem?_setIfInBounds_self_of_lt (by rw [hsz.out]; exact hk7)]
            · rw [Array.getElem?_setIfInBounds_ne (fun h => e h.symm)]
              exact hval.out q (by omega)
          case measure => simp [intOf]; omega
        · have k7 : k = 577 := by omega
          subst k7
          have hT : Same (fun b => b < wo.heap.size) wo wr := (Same.of_below hB2).trans (hS.mono fun b hb => ⟨Nat.lt_of_lt_of_le hb hB2.size, by omega⟩)
          have hBo : Below wo.heap.size wo wr := Same.below hT
          have hP3 : PlanR wr w0.heap.size P S A l c v := Blk.below' hP hBo
          have hF3 := hF.keep hBo
          have hown3 := hown.below hBo
          have hnotin : wo.heap.size ∉ R := fun hin => by have := (hF.lt _ hin).2; omega
          have hF4 := hF3.snoc hblk.out hsz.out (fun q hq => hval.out q hq) (by omega) hnotin
          obtain ⟨Av, cv, rfl, hcv, _⟩ := Own.rd slenc_len hown3
          have c3 := hP3.cell 3 _ rfl
          have p3 := Blk.lt hP3
          have hz3 := hBo.size
          have hB3 : Below w0.heap.size w0 wr := hB.trans (hBo.mono hzr)
          have hz4 := hB3.size
          have k2 : ¬ (577 : Int) < 577 := by omega
          go_wp2_with (first
            | (at_builtin; refine wpList_append_own _ rfl (.tmp 57) (.tmp 59) _ rfl (w0.heap.size + 1) _ j0 _ 1 24 Try.underlying83 hj0 hy0 hy1 hy2 rfl (by omega) (.slice Av R.length cv) R.length (R.flatMap slenc) rfl (hown3.alloc _) ⟨wr.heap.size, 0, none⟩ 1 1 (slenc wo.heap.size) rfl rfl ?_ (by intro u hu; simp [slenc] at hu; subst hu; rfl) (by unfold maxLen; omega) (by omega) (by simp; omega) ?_
               · intro q u hu
                 match q, hu with
                 | 0, hu => simp [slenc] at hu; subst hu; exact World.cell?_alloc_new _ _ _ 0
               intro v8 w8 hown8 hg8 _
               obtain ⟨A8, n8, c8, rfl⟩ : ∃ A n c, v8 = .slice A n c := by
                 rcases hown8.2 with ⟨h, _⟩ | ⟨g, cap, cur, h, _⟩
                 · exact ⟨_, _, _, h⟩
                 · exact ⟨_, _, _, h⟩
               have hP8 : PlanR w8 w0.heap.size P S A l c (.slice Av R.length cv) := (Blk.alloc hP3 (.cells #[.slice (some ⟨wo.heap.size, 0, none⟩) 577 577] 43)).grown hg8 (Own.ne_block hown3 hP3 (by decide))
               have q3 := hP8.cell 3 _ rfl
               have q4 := Blk.frozen hP8 3
               have q5 := Blk.lt hP8)
            | fail)
          have hA0 : Below wr.heap.size wr (wr.alloc (.cells #[.slice (some ⟨wo.heap.size, 0, none⟩) 577 577] 43)) := (Below.refl _ _).alloc (Nat.le_refl _) _
          have hF8 := (hF4.keep hA0).grown (hown3.alloc _) hg8
          have hB8 : Below w0.heap.size w0 w8 := Own.grown ((hown3.base (base' := w0.heap.size) (by omega)).alloc _) (hB3.trans (hA0.mono hz4)) hg8 (by simp; omega)
          have hown9 : Own 1 slenc w8 (w0.heap.size + 1) 43 (.slice A8 n8 c8) (R ++ [wo.heap.size]) := by
            unfold Own
            rw [List.length_append, List.flatMap_append, List.flatMap_singleton]; exact hown8
          go_roundw
          case rel => exact ⟨j + 1, R ++ [wo.heap.size], .slice A8 n8 c8, by omega, by go_num, by rw [List.length_append, HRL.out]; rfl, by simpa [PlanR] using Blk.set_ hP8 3 (.slice A8 n8 c8), ownsRow_setCell_below hown9 (by simp) _, hF8.set_ 3 _, hB8.setCell (Nat.le_refl _) _⟩
          case measure => simp [intOf]; omega
    · have k1 : ¬ (j : Int) < (M : Int) := by omega
      have hR2 : R.length = 2 ^ l.length := by rw [HRL.out, hMp.out]; omega
      obtain ⟨kb, kc, hPK⟩ := planK_start hP hown hF hR2 (hr.below' hBr hH) (by have := hBr.size; omega) (by have := hBw.size; omega)
      have hlts : ∀ r ∈ R, w0.heap.size < r ∧ r < wr.heap.size := fun r hr => hF.lt r hr
      have hkb : kb < wr.heap.size := lt_of_cell (hPK.hK.row 0 (by rw [hR2]; exact Nat.two_pow_pos _))
      have FW := Lib.hid (fun (d : Nat) (lo hi : Int) (w' : World) (hd : d < 2 ^ l.length) (g1 : 0 ≤ lo) (g2 : lo ≤ 23) (g3 : 0 ≤ hi) (g4 : hi ≤ 23) (hp : PlanK w' w0.heap.size kb 0 kc R P S A l c H) => rfewest_any w0.heap.size kb 0 kc R P S A l c H HOK.out hR2 10 d lo hi w' (Nat.le_trans (zeros_le _ _) hl) hd g1 g2 g3 g4 hp)
      have WF := Lib.hid (fun (d i : Nat) (lo hi : Int) (w' : World) (hp : PlanK w' w0.heap.size kb 0 kc R P S A l c H) (hi' : i < l.length) (hbit : d.testBit i = false) (hd : d < 2 ^ l.length) (g1 : 0 ≤ lo) (g2 : lo ≤ 23) (g3 : 0 ≤ hi) (g4 : hi ≤ 23) => rwith_any w0.heap.size kb 0 kc R P S A l c H 10 HOK.out (rfewest_any w0.heap.size kb 0 kc R P S A l c H HOK.out hR2 10) d i lo hi w' hp hi' hbit (Nat.le_trans (zeros_le _ _) (by omega)) hd g1 g2 g3 g4)
      have HPK := Lib.hid (hPK.keep ((Below.refl wr.heap.size wr).alloc (Nat.le_refl _) (.cells #[.int .i64 (P : Int), .slice none 0 0] 24)))
      have hw0o : w0.heap.size < wr.heap.size := pl
      have HLT := Lib.hid hlts
      have hzr2 := hBr.size
      have HB5 : Hid (∀ (k : Nat) (hk : k < l.length), 0 ≤ l[k].b ∧ l[k].b ≤ 100) := fun k hk => by have := HOK.out.hb k hk; have := HOK.out.b3; omega
      clear hP hown hF hPK hlts hR2 k1 HRL hRle
      have k1 : ¬ (j : Int) < (M : Int) := by omega
      go_wp2_with fail
      obtain ⟨wo, rfl⟩ : ∃ wo : World, wo = wr := ⟨_, rfl⟩
      clear c0 c1 k1 n2 hw2
      go_loopg [12, 13, 14] l.length (fun gk sv lv hv' wr => ∃ (Md : List Nat) (d : Nat) (lo hi : Int) (Av : Option Addr) (cv : Nat), sv = .int .i64 d ∧ lv = .int .i64 lo ∧ hv' = .int .i64 hi ∧ Md.length + gk = l.length ∧ zeros l.length d = gk ∧ Hid (d < 2 ^ l.length) ∧ 0 ≤ lo ∧ lo ≤ 23 ∧ 0 ≤ hi ∧ hi ≤ 23 ∧ Hid (bestO P S l = Md ++ bsel P S l (bfL l) gk d lo hi) ∧ Hid (∀ x ∈ Md, x < l.length) ∧
        Blk wr wo.heap.size 24 #[.int .i64 P, .slice Av Md.length cv] ∧ Own 3 Tri.enc wr (wo.heap.size + 1) 57 (.slice Av Md.length cv) (Md.map (xAt l)) ∧ Hid (PlanK wr w0.heap.size kb 0 kc R P S A l c H) ∧ Same (fun b => b < wo.heap.size ∧ b ∉ R) wo wr)
      case atStart => exact ⟨[], 0, 1, 0, none, 0, rfl, rfl, rfl, by simp, zeros_zero _, Nat.two_pow_pos _, by omega, by omega, by omega, by omega, rfl, by simp [Hid], Blk.new _ _ _, Own.nil _ _ _, HPK, (Same.of_below ((Below.refl wo.heap.size wo).alloc (Nat.le_refl _) _)).mono fun b hb => hb.1⟩
      case round =>
        obtain ⟨Md, d, lo, hi, Av, cv, rfl, rfl, rfl, hmg, hzg, hd, g1, g2, g3, g4, hsel, hMl, hX, hown, hPK, hS⟩ := hrel
        have hBq : Below w.heap.size w wr := hBr.trans (Same.below (hS.mono fun b hb => ⟨by omega, fun hin => by have := (HLT.out b hin).1; have := hBw.size; omega⟩))
        have hBq0 : Below w0.heap.size w0 wr := hB.trans (Same.below (hS.mono fun b hb => ⟨by omega, fun hin => by have := (HLT.out b hin).1; omega⟩))
        have kS2 := kS.below hBq0 n1
        have c0 := kS2.cell 0 _ rfl
        have c1 := kS2.cell 1 (.slice A l.length c) rfl
        have n2 := kS2.lt
        have s0 := hX.cell 0 _ rfl
        have s1 := hX.cell 1 _ rfl
        have sl := hX.lt
        by_cases hgk : 0 < gk
        · have k1 : (Md.length : Int) < (l.length : Int) := by omega
          obtain ⟨F, hF⟩ : ∃ F, Hid (few P S l (bfL l) d lo hi = F) := ⟨_, Lib.hid rfl⟩
          have hpk0 := pick_some (p := (P : Int)) (s := (S : Int)) (lo := lo) (hi := hi) (bfL_ok l) (bits_bf hl) hl hd.out (not_full (by omega))
          obtain ⟨pk, hpk⟩ := hpk0
          obtain ⟨hpl, hpc, hpn⟩ := pick_spec hpk
          rw [hF.out] at hpc hpn
          have HPC := Lib.hid hpc
          have HPN := Lib.hid hpn
          have HPICK := Lib.hid hpk
          have hFb := few_bd (p := (P : Int)) (s := (S : Int)) (l := l) (bf := bfL l) d lo hi
          rw [hF.out] at hFb
          clear hpc hpn hpk
          go_wp2_with (first
            | (go_at_call 51; refine (FW.out d lo hi wr hd.out g1 g2 g3 g4 hPK.out).mono ?_; rintro e w3 ⟨rfl, hP3, hS3⟩; rw [hF.out]
               have HP3 := Lib.hid hP3
               clear hP3)
            | fail)
          obtain ⟨wc, rfl⟩ : ∃ wc : World, wc = wr := ⟨_, rfl⟩
          clear c0 c1 n2 s0 s1 sl
          go_loopw [12, 13, 14, 16] (fun sv lv hv' iv wr => ∃ (i : Nat), sv = .int .i64 d ∧ lv = .int .i64 lo ∧ hv' = .int .i64 hi ∧ i ≤ pk ∧ iv = .int .i64 i ∧ Hid (PlanK wr w0.heap.size kb 0 kc R P S A l c H) ∧ Stay R w3 wr) (fun _ _ _ iv _ => l.length - (intOf iv).toNat)
          case atStart => exact ⟨0, rfl, rfl, rfl, Nat.zero_le _, rfl, HP3, Stay.refl _ _⟩
          case round =>
            obtain ⟨i, rfl, rfl, rfl, hip, rfl, hPi, hSi⟩ := hrel
            have hSc : Stay R wc wr := Stay.step hS3 hSi
            have hSo : Same (fun b => b < wo.heap.size ∧ b ∉ R) wo wr := hS.trans (Same.mono hSc fun b hb => ⟨Nat.lt_of_lt_of_le hb.1 hS.size, hb.2⟩)
            have hBi : Below w.heap.size w wr := hBr.trans (Same.below (hSo.mono fun b hb => ⟨by omega, fun hin => by have := (HLT.out b hin).1; have := hBw.size; omega⟩))
            have hBi0 : Below w0.heap.size w0 wr := hB.trans (Same.below (hSo.mono fun b hb => ⟨by omega, fun hin => by have := (HLT.out b hin).1; omega⟩))
            have kS3 := kS.below hBi0 n1
            have c0 := kS3.cell 0 _ rfl
            have c1 := kS3.cell 1 (.slice A l.length c) rfl
            have n2 := kS3.lt
            have hil : i < l.length := by omega
            have k2 : (i : Int) < (l.length : Int) := by omega
            have k3 : (0 : Int) ≤ (i : Int) := by omega
            have hfr := free_rdy (l := l) (d := d) (M := bitsOf l.length d) hil hl hd.out (bits_of _ _)
            have FR := Lib.hid (rfree_any P S A l c _ w0.heap.size i d wr H hPi.out.hP hPi.out.hr hPi.out.hH hil hl (Nat.lt_of_lt_of_le hd.out (two_pow_le hl).2) HB5.out)
            cases hfree : freeB (bfL l) d i
            · rw [hfree] at hfr
              have HFR := Lib.hid hfr
              have hne : i ≠ pk := fun e => by
                subst e
                have := cost_isfree HPC.out
                rw [hfree] at this; cases this
              clear hfree hfr
              go_wp2_with (first
                | (go_at_call 52; refine FR.out.mono ?_; rintro e w4 ⟨rfl, hB4⟩; rw [← HFR.out])
                | fail)
              go_roundw
              case rel => exact ⟨i + 1, rfl, rfl, rfl, by omega, by go_num, hPi.out.keep hB4, hSi.step (Stay.of R hB4)⟩
              case measure => simp [intOf]; omega
            · rw [hfree] at hfr
              have HFR := Lib.hid hfr
              have hcst := cost_def (p := (P : Int)) (s := (S : Int)) (l := l) (lo := lo) (hi := hi) hfree
              rw [xAt_of hil] at hcst
              have hbit := freeB_bit hfree
              have WT := Lib.hid (fun (w' : World) (hP' : PlanK w' w0.heap.size kb 0 kc R P S A l c H) => WF.out d i lo hi w' hP' hil hbit hd.out g1 g2 g3 g4)
              obtain ⟨X, hXX⟩ : ∃ X, Hid (nn (joinB P S l[i] lo hi) + few P S l (bfL l) (d ||| 2 ^ i) (nlo S l[i] lo (joinB P S l[i] lo hi)) (nhi P S l[i] hi (joinB P S l[i] lo hi)) = X) := ⟨_, Lib.hid rfl⟩
              obtain ⟨lo2, hlo2⟩ : ∃ x : Int, Hid (nlo S l[i] lo (joinB P S l[i] lo hi) = x) := ⟨_, Lib.hid rfl⟩
              obtain ⟨hi2, hhi2⟩ : ∃ x : Int, Hid (nhi P S l[i] hi (joinB P S l[i] lo hi) = x) := ⟨_, Lib.hid rfl⟩
              rw [hXX.out, hlo2.out, hhi2.out] at WT
              rw [hXX.out] at hcst
              have hbi := HOK.out.hb i hil
              have hb1 := HOK.out.b1
              have hb2 := HOK.out.b2
              have hb3 := HOK.out.b3
              have hnb : 0 ≤ lo2 ∧ lo2 ≤ 23 ∧ 0 ≤ hi2 ∧ hi2 ≤ 23 := by
                rw [← hlo2.out, ← hhi2.out]
                unfold nlo nhi wlo whi
                cases hj : joinB (P : Int) S l[i] lo hi
                · simp; omega
                · rw [joinB_eq] at hj
                  simp only [decide_eq_true_eq, wlo, whi] at hj
                  simp; omega
              clear hbi hb1 hb2 hb3
              have FREEARM := True.intro
              by_cases hip2 : i = pk
              · have hXF : X = F := by
                  subst hip2
                  have := HPC.out
                  rw [hcst] at this
                  simpa using this
                have tE : (X == F) = true := by simp [hXF]
                have hpicki : pick P S l (bfL l) d lo hi = some i := by rw [hip2]; exact HPICK.out
                have HPI := Lib.hid hpicki
                have hz2 := zeros_or hil hbit
                obtain ⟨d2, hd2⟩ : ∃ x : Nat, Hid (d ||| 2 ^ i = x) := ⟨_, Lib.hid rfl⟩
                have hadd := or_add' (show d < 1024 by have := (two_pow_le hl).2; have := hd.out; omega) (show i < 10 by omega) hbit
                have hd2b := Lib.hid (or_lt hd.out hil)
                rw [hd2.out] at hz2 hadd hd2b
                have hd210 : d2 < 1024 := Nat.lt_of_lt_of_le hd2b.out (two_pow_le hl).2
                obtain ⟨q, hq⟩ : ∃ q : Nat, 2 ^ i = q := ⟨_, rfl⟩
                rw [hq] at hadd
                have hw1 : IntKind.i64.wrap (2 ^ i) = (q : Int) := by
                  rw [show ((2 : Int) ^ i) = ((2 ^ i : Nat) : Int) by simp, hq]
                  exact IntWalk.i64_in _ (by omega)
                have HW2 := Lib.hid (show (d : Int) + (q : Int) = (d2 : Int) by omega)
                have hqb : q ≤ 1024 := by omega
                have hdb : d ≤ 1024 := by omega
                have i2' : (i : Int) ≤ 64 := by omega
                have HZ2 := Lib.hid hz2
                clear hfree hfr hcst hbit hXF hpicki hz2 hadd hq hip2
                go_wp2_with (first
                  | (go_at_call 52; refine FR.out.mono ?_; rintro e w4 ⟨rfl, hB4⟩; rw [← HFR.out]
                     have HP4 := Lib.hid (hPi.out.keep hB4))
                  | (go_at_call 53; refine (WT.out w4 HP4.out).mono ?_; rintro e w5 ⟨rfl, hP5, hS5⟩
                     have HP5 := Lib.hid hP5
                     clear hP5))
                have hxR : wo.heap.size ∉ R := fun hin => Nat.lt_irrefl _ (HLT.out _ hin).2
                have hSw : Stay R wc w5 := Stay.step hSc ((Stay.of R hB4).step hS5)
                have hX5 := hX.same hSw ⟨hX.lt, hxR⟩
                have hown5 := Own.same hown hSw (fun g hg => ⟨(World.ownsRow.lt hown g hg).2, fun hin => by have := (World.ownsRow.lt hown g hg).1; have := (HLT.out g hin).2; omega⟩)
                have hSo5 : Same (fun b => b < wo.heap.size ∧ b ∉ R) wo w5 := hS.trans (Same.mono hSw fun b hb => ⟨Nat.lt_of_lt_of_le hb.1 hS.size, hb.2⟩)
                have hB05 : Below w0.heap.size w0 w5 := hB.trans (Same.below (hSo5.mono fun b hb => ⟨by omega, fun hin => by have := (HLT.out b hin).1; omega⟩))
                have kS5 := kS.below hB05 n1
                have hz5 := hSo5.size
                obtain ⟨b, o, hA5, hbH, m0, m1, m2⟩ := HP5.out.hr.tri hil
                subst hA5
                have kS9 := kS5.cell 1 _ rfl
                have hbx : b < w.heap.size := by omega
                refine wp_region_J (fun w' => w'.cell? ⟨w.heap.size, 1, none⟩ = some (.slice (some ⟨b, o, none⟩) l.length c) ∧ w'.cell? ⟨b, o + i * 3, none⟩ = some (.int .i64 l[i].a) ∧ w'.cell? ⟨b, o + i * 3 + 1, none⟩ = some (.int .i64 l[i].b) ∧ w'.cell? ⟨b, o + i * 3 + 2, none⟩ = some (.string l[i].s)) (fun w' => w'.cell? ⟨wo.heap.size, 1, none⟩ = some (.slice Av Md.length cv)) (fun i => i == 7 || i == 8) (by kernel_rfl) ?_
                have hS1 : w5.drew.cell? ⟨w.heap.size, 1, none⟩ = some (.slice (some ⟨b, o, none⟩) l.length c) ∧ w5.drew.cell? ⟨b, o + i * 3, none⟩ = some (.int .i64 l[i].a) ∧ w5.drew.cell? ⟨b, o + i * 3 + 1, none⟩ = some (.int .i64 l[i].b) ∧ w5.drew.cell? ⟨b, o + i * 3 + 2, none⟩ = some (.string l[i].s) := ⟨kS9, m0, m1, m2⟩
                have hS2 : w5.drew.cell? ⟨wo.heap.size, 1, none⟩ = some (.slice Av Md.length cv) := hX5.cell 1 _ rfl
                refine wpAnyJ_take1 0 rfl (by kernel_rfl) (by kernel_rfl) rfl (by kernel_rfl) (fun _ _ _ h => h) (by rfl) hS1 (fun w' hSw => (by obtain ⟨u0, u2, u3, u4⟩ := hSw; have ub := lt_of_cell u2; go_simp; try (with_reducible rfl))) ?_
                try simp only [Act.put, List.getElem_toArray, List.getElem_cons_succ, List.getElem_cons_zero, List.setIfInBounds_toArray, List.set_cons_zero, List.set_cons_succ]
                refine wpAnyJ_take1 2 rfl (by kernel_rfl) (by kernel_rfl) rfl (by kernel_rfl) (fun _ _ _ h => h) (by rfl) hS1 (fun w' hSw => (by obtain ⟨u0, u2, u3, u4⟩ := hSw; have ub := lt_of_cell u2; go_simp; try (with_reducible rfl))) ?_
                try simp only [Act.put, List.getElem_toArray, List.getElem_cons_succ, List.getElem_cons_zero, List.setIfInBounds_toArray, List.set_cons_zero, List.set_cons_succ]
                refine wpAnyJ_take1 3 rfl (by kernel_rfl) (by kernel_rfl) rfl (by kernel_rfl) (fun _ _ _ h => h) (by rfl) hS1 (fun w' hSw => (by obtain ⟨u0, u2, u3, u4⟩ := hSw; have ub := lt_of_cell u2; go_simp; try (with_reducible rfl))) ?_
                try simp only [Act.put, List.getElem_toArray, List.getElem_cons_succ, List.getElem_cons_zero, List.setIfInBounds_toArray, List.set_cons_zero, List.set_cons_succ]
                refine wpAnyJ_take1 4 rfl (by kernel_rfl) (by kernel_rfl) rfl (by kernel_rfl) (fun _ _ _ h => h) (by rfl) hS1 (fun w' hSw => (by obtain ⟨u0, u2, u3, u4⟩ := hSw; have ub := lt_of_cell u2; go_simp; try (with_reducible rfl))) ?_
                try simp only [Act.put, List.getElem_toArray, List.getElem_cons_succ, List.getElem_cons_zero, List.setIfInBounds_toArray, List.set_cons_zero, List.set_cons_succ]
                refine wpAnyJ_take1 5 rfl (by kernel_rfl) (by kernel_rfl) rfl (by kernel_rfl) (fun _ _ _ h => h) (by rfl) hS1 (fun w' hSw => (by obtain ⟨u0, u2, u3, u4⟩ := hSw; have ub := lt_of_cell u2; go_simp; try (with_reducible rfl))) ?_
                try simp only [Act.put, List.getElem_toArray, List.getElem_cons_succ, List.getElem_cons_zero, List.setIfInBounds_toArray, List.set_cons_zero, List.set_cons_succ]
                refine wpAnyJ_take1 6 rfl (by kernel_rfl) (by kernel_rfl) rfl (by kernel_rfl) (fun _ _ _ h => h) (by rfl) hS1 (fun w' hSw => (by obtain ⟨u0, u2, u3, u4⟩ := hSw; have ub := lt_of_cell u2; go_simp; try (with_reducible rfl))) ?_
                try simp only [Act.put, List.getElem_toArray, List.getElem_cons_succ, List.getElem_cons_zero, List.setIfInBounds_toArray, List.set_cons_zero, List.set_cons_succ]
                refine wpAnyJ_take2 1 rfl (by kernel_rfl) (by kernel_rfl) (by kernel_rfl) (by kernel_rfl) (fun _ _ _ h => h) (by rfl) hS1 hS2 (fun w' hSw => (by obtain ⟨_, v1⟩ := hSw; go_simp; try (with_reducible rfl))) ?_
                try simp only [Act.put, List.getElem_toArray, List.getElem_cons_succ, List.getElem_cons_zero, List.setIfInBounds_toArray, List.set_cons_zero, List.set_cons_succ]
                have hkeepS : ∀ w', Same (fun j => j < wo.heap.size) w5 w' → w'.cell? ⟨w.heap.size, 1, none⟩ = some (.slice (some ⟨b, o, none⟩) l.length c) ∧ w'.cell? ⟨b, o + i * 3, none⟩ = some (.int .i64 l[i].a) ∧ w'.cell? ⟨b, o + i * 3 + 1, none⟩ = some (.int .i64 l[i].b) ∧ w'.cell? ⟨b, o + i * 3 + 2, none⟩ = some (.string l[i].s) := fun w' hb => ⟨(hb.cell (p := ⟨w.heap.size, _, none⟩) (by show w.heap.size < wo.heap.size; omega)).trans kS9, (hb.cell (p := ⟨b, _, none⟩) (by show b < wo.heap.size; omega)).trans m0, (hb.cell (p := ⟨b, _, none⟩) (by show b < wo.heap.size; omega)).trans m1, (hb.cell (p := ⟨b, _, none⟩) (by show b < wo.heap.size; omega)).trans m2⟩
                have hA0 : Below w5.heap.size w5 w5.drew := (Below.refl _ _).drew
                refine wpAnyJ_ready [7] (by kernel_rfl) (by simp) (NextJ.cons rfl (fun K hK => ?_) NextJ.nil)
                go_simp
                have hA7 := hA0.alloc hA0.size (.cells #[.int .i64 l[i].a, .int .i64 l[i].b, .string l[i].s] 57)
                have hA7s : Same (fun j => j < wo.heap.size) w5 _ := (Same.of_below hA7).mono (fun k hk => by omega)
                refine hK.out _ _ (hkeepS _ hA7s) (fun _ => (hX5.below' hA7).cell 1 _ rfl) ?_
                clear hK K
                try simp only [Act.put, List.getElem_toArray, List.getElem_cons_succ, List.getElem_cons_zero, List.setIfInBounds_toArray, List.set_cons_zero, List.set_cons_succ]
                refine wpAnyJ_ready [8] (by kernel_rfl) (by simp) (NextJ.cons rfl (fun K hK => ?_) NextJ.nil)
                refine step_append_tri (by rfl) (.tmp 104) (.tmp 110) _ (by rfl) (wo.heap.size + 1) _ u0 _ Try.underlying22 hu0 hx0 hx1 hx2 rfl (.slice Av Md.length cv) (Md.map (xAt l)) (by rfl) (hown5.below hA7) w5.heap.size l[i] (by rfl) (World.cell?_alloc_new _ _ _ 0) (World.cell?_alloc_new _ _ _ 1) (World.cell?_alloc_new _ _ _ 2) (by rw [List.length_map]; omega) (by have := hX5.lt; simp; omega) ?_
                intro v' W8 hown8 hg8
                obtain ⟨A8, c8, rfl⟩ : ∃ A c, v' = .slice A (Md.length + 1) c := by
                  obtain ⟨A8, c8, e8, _, _⟩ := Own.rd tri_len hown8
                  rw [List.length_append, List.length_map] at e8
                  exact ⟨A8, c8, e8⟩
                have hX8 := (hX5.below' hA7).grown hg8 ((hown5.below hA7).ne_block (hX5.below' hA7) (by decide))
                have hneB : ∀ k, k < wo.heap.size → some k ≠ (Value.slice Av Md.length cv).ownBlock := fun k hk e => by have := (World.ownsRow.lt hown5 k e.symm).1; omega
                have hS8 : Same (fun j => j < wo.heap.size) w5 W8 := hA7s.trans ⟨hg8.os, hg8.tape, hg8.output, hg8.size, fun k hk => hg8.block k (by have := hX5.lt; simp; omega) (hneB k hk)⟩
                have hS1_8 := hkeepS _ hS8
                refine hK.out _ _ hS1_8 (fun _ => hX8.cell 1 _ rfl) ?_
                clear hK K hS1 hS2
                try simp only [Act.put, List.getElem_toArray, List.getElem_cons_succ, List.getElem_cons_zero, List.setIfInBounds_toArray, List.set_cons_zero, List.set_cons_succ]
                refine wpAnyJ_take1 9 rfl (by kernel_rfl) (by kernel_rfl) rfl (by kernel_rfl) (fun _ _ _ h => h) (by rfl) hS1_8 (fun w' hSw => (by obtain ⟨u0, u2, u3, u4⟩ := hSw; have ub := lt_of_cell u2; go_simp; try (with_reducible rfl))) ?_
                try simp only [Act.put, List.getElem_toArray, List.getElem_cons_succ, List.getElem_cons_zero, List.setIfInBounds_toArray, List.set_cons_zero, List.set_cons_succ]
                refine wpAnyJ_ready [10] (by kernel_rfl) (by simp) (NextJ.cons rfl (fun K hK => ?_) NextJ.nil)
                have c81 := hX8.cell 1 _ rfl
                have f81 := hX8.frozen 1
                have l81 := hX8.lt
                go_simp
                have hS9 : Same (fun j => j < wo.heap.size) w5 (W8.setCell ⟨wo.heap.size, 1, none⟩ (.slice A8 (Md.length + 1) c8)) := Same.setCell hS8 (fun e => Nat.lt_irrefl _ e) _
                refine hK.out _ _ (hkeepS _ hS9) (fun h => absurd h (by decide)) ?_
                clear hK K
                try simp only [Act.put, List.getElem_toArray, List.getElem_cons_succ, List.getElem_cons_zero, List.setIfInBounds_toArray, List.set_cons_zero, List.set_cons_succ]
                refine wpAnyJ_done (by kernel_rfl) ?_ _
                have hkbx : kb < wo.heap.size := hkb
                have hP9 := HP5.out.same hS9 (by show w0.heap.size < wo.heap.size; omega) hkbx (fun r hr => (HLT.out r hr).2) (fun b hb => by show b < wo.heap.size; omega)
                have HP9 := Lib.hid hP9
                clear hS1_8 c81 f81 l81 hP9 m0 m1 m2 kS9
                go_wp2_with fail
                go_roundg (gk - 1)
                case measure => omega
                case rel =>
                  have hstep := bsel_step (k := gk) hgk HPI.out hil hd2.out hlo2.out hhi2.out
                  have hzz := HZ2.out
                  refine ⟨Md ++ [i], d2, lo2, hi2, A8, c8, by rw [HW2.out], rfl, rfl, by simp; omega, by omega, hd2b.out, hnb.1, hnb.2.1, hnb.2.2.1, hnb.2.2.2, by rw [Hid, hsel.out, hstep]; simp, ?_, ?_, ?_, HP9, ?_⟩
                  · intro x hx
                    rcases List.mem_append.1 hx with hx | hx
                    · exact hMl.out x hx
                    · simp at hx; subst hx; exact hil
                  · simpa using hX8.set_ 1 (.slice A8 (Md.length + 1) c8)
                  · have e1 : (Md ++ [i]).map (xAt l) = Md.map (xAt l) ++ [l[i]] := by rw [List.map_append, List.map_singleton, xAt_of hil]
                    rw [e1, List.length_append]
                    exact ownsRow_setCell_below hown8 (by simp) _
                  · exact hSo5.trans (hS9.mono fun b hb => hb.1)
              · have hXF : X ≠ F := fun e => HPN.out i (by omega) (by rw [hcst, e])
                have tE : (X == F) = false := by simp [hXF]
                clear hfree hfr hcst hbit hXF
                go_wp2_with (first
                  | (go_at_call 52; refine FR.out.mono ?_; rintro e w4 ⟨rfl, hB4⟩; rw [← HFR.out]
                     have HP4 := Lib.hid (hPi.out.keep hB4))
                  | (go_at_call 53; refine (WT.out w4 HP4.out).mono ?_; rintro e w5 ⟨rfl, hP5, hS5⟩
                     have HP5 := Lib.hid hP5
                     clear hP5))
                go_roundw
                case rel => exact ⟨i + 1, rfl, rfl, rfl, by omega, by go_num, HP5, (hSi.step (Stay.of R hB4)).step hS5⟩
                case measure => simp [intOf]; omega
        · have hg0 : gk = 0 := by omega
          subst hg0
          have hMB : bestO P S l = Md := by rw [hsel.out, bsel]; simp
          have HMB := Lib.hid hMB
          have hlen0 : Md.length = l.length := by omega
          have k1 : ¬ (Md.length : Int) < (l.length : Int) := by omega
          have hrd := hown.rdT'
          have hbb : ∀ (k : Nat) (hk : k < (Md.map (xAt l)).length), 0 ≤ (Md.map (xAt l))[k].b ∧ (Md.map (xAt l))[k].b ≤ 100 := fun k hk => by
            have hk' : k < Md.length := by simpa using hk
            have hx' := hMl.out Md[k] (List.getElem_mem hk')
            rw [List.getElem_map, xAt_of hx']
            exact HB5.out _ hx'
          have hml : (Md.map (xAt l)).length = Md.length := List.length_map _
          have hb1 := HOK.out.b1
          have hb2 := HOK.out.b2
          have hb3 := HOK.out.b3
          have RS := Lib.hid (rsteps_any P Av (Md.map (xAt l)) cv S wr wr.heap.size hrd (Nat.le_refl _) hbb (by omega) hb1 hb2 hb3)
          rw [hml] at RS
          clear hMB hbb hrd hlen0 hml
          go_wp2_with (first
            | (go_at_call 54; refine RS.out.mono ?_; rintro e w9 ⟨vv, rfl, hownF, hBF⟩)
            | fail)
          go_ret2
          exact ⟨vv, rfl, by rw [HMB.out]; exact hownF.base (by have := hBq.size; omega), hBq.trans (hBF.mono hBq.size)⟩

theorem rBest_err (P S : Int) (A : Option Addr) (l : List Tri) (c : Nat) (w : World) (H : Nat) (hr : RdT w H A l) (hH : H ≤ w.heap.size)
    (hw : ∀ (k : Nat) (hk : k < l.length), l[k].s.size ≤ 9223372036854775807) (hchk : chkE P l S ≠ 0) (hl : l.length ≤ 9223372036854775807) :
    Calls Try.prog 16 #[.agg #[.int .i64 P, .slice A l.length c], .int .i64 S] w fun e w' => e = .returned (.tuple #[.slice none 0 0, .int .i64 (chkE P l S)]) ∧ Below w.heap.size w w' := by
  have t1 : (chkE P l S != 0) = true := by simpa using hchk
  have HC := Lib.hid hchk
  have HW := Lib.hid hw
  clear hchk hw
  go_enter Try.func16, Try.ntmps16
  go_wp2_with (first
    | (go_at_call 41; refine (rcheck_any P A l c S _ H (hr.below' (B' := w.heap.size) (by (repeat' first | exact Below.refl _ _ | apply Below.drew | (refine Below.setCells ?_ _ _ ?_) | (refine Below.setCell ?_ ?_ _) | (refine Below.alloc ?_ ?_ _) | (simp; done) | (simp; omega))) hH) (by simp; omega) HW.out (by omega)).mono ?_; rintro e w1 ⟨rfl, hB1⟩
       have hBw : Below w.heap.size w w1 := Below.trans (b := w.alloc (.cells #[.int .i64 P, .slice A l.length c] 24)) (by (repeat' first | exact Below.refl _ _ | apply Below.drew | (refine Below.setCells ?_ _ _ ?_) | (refine Below.setCell ?_ ?_ _) | (refine Below.alloc ?_ ?_ _) | (simp; done) | (simp; omega))) (hB1.mono (by simp)))
    | fail)
  go_ret2
  exact ⟨rfl, hBw⟩
theorem rBest_long (P S : Int) (A : Option Addr) (l : List Tri) (c : Nat) (w : World) (H : Nat) (hr : RdT w H A l) (hH : H ≤ w.heap.size)
    (hw : ∀ (k : Nat) (hk : k < l.length), l[k].s.size ≤ 9223372036854775807) (hchk : chkE P l S = 0) (hl : l.length ≤ 9223372036854775807) (hl10 : 10 < l.length) :
    Calls Try.prog 16 #[.agg #[.int .i64 P, .slice A l.length c], .int .i64 S] w fun e w' => e = .returned (.tuple #[.slice none 0 0, .int .i64 3]) ∧ Below w.heap.size w w' := by
  have t2 : (10 : Int) < (l.length : Int) := by omega
  have HC := Lib.hid hchk
  have HW := Lib.hid hw
  clear hchk hw hl10
  go_enter Try.func16, Try.ntmps16
  go_wp2_with (first
    | (go_at_call 41; refine (rcheck_any P A l c S _ H (hr.below' (B' := w.heap.size) (by (repeat' first | exact Below.refl _ _ | apply Below.drew | (refine Below.setCells ?_ _ _ ?_) | (refine Below.setCell ?_ ?_ _) | (refine Below.alloc ?_ ?_ _) | (simp; done) | (simp; omega))) hH) (by simp; omega) HW.out (by omega)).mono ?_; rintro e w1 ⟨rfl, hB1⟩; rw [HC.out]
       have kS := (Blk.new w 24 #[.int .i64 P, .slice A l.length c]).below' hB1
       have c1 := kS.cell 1 _ rfl
       have n1 := kS.lt
       have hBw : Below w.heap.size w w1 := Below.trans (b := w.alloc (.cells #[.int .i64 P, .slice A l.length c] 24)) (by (repeat' first | exact Below.refl _ _ | apply Below.drew | (refine Below.setCells ?_ _ _ ?_) | (refine Below.setCell ?_ ?_ _) | (refine Below.alloc ?_ ?_ _) | (simp; done) | (simp; omega))) (hB1.mono (by simp)))
    | fail)
  go_ret2
  exact ⟨rfl, hBw⟩

/-- what Best gives, program and reference alike -/
def bestL (P S : Int) (l : List Tri) : List Tri := if chkE P l S = 0 ∧ l.length ≤ 10 then rst P S ((bestO P S l).map (xAt l)) (-1) else []
def bestE (P S : Int) (l : List Tri) : Int := if chkE P l S = 0 then (if l.length ≤ 10 then 0 else 3) else chkE P l S
def BestPost (P S : Int) (l : List Tri) (w : World) (e : Ending) (w' : World) : Prop :=
  ∃ (A : Option Addr) (c : Nat), e = .returned (.tuple #[.slice A (bestL P S l).length c, .int .i64 (bestE P S l)]) ∧ RdT w' w'.heap.size A (bestL P S l) ∧ Below w.heap.size w w'
theorem bestPost_nil {P S : Int} {l : List Tri} {w w' : World} {e : Ending} {E : Int} (hL : bestL P S l = []) (hE : bestE P S l = E) (h : e = .returned (.tuple #[.slice none 0 0, .int .i64 E]) ∧ Below w.heap.size w w') : BestPost P S l w e w' :=
  ⟨none, 0, by rw [h.1, hL, hE]; rfl, by rw [hL]; exact Rd.nil, h.2⟩
theorem cBest_all (P S : Int) (A : Option Addr) (l : List Tri) (c : Nat) (w : World) (H : Nat) (hr : RdT w H A l) (hH : H ≤ w.heap.size)
    (hw : ∀ (k : Nat) (hk : k < l.length), l[k].s.size ≤ 9223372036854775807) (hl : l.length ≤ 9223372036854775807) (hlc : l.length ≤ c) :
    Calls Try.prog 15 #[.agg #[.int .i64 P, .slice A l.length c], .int .i64 S] w (BestPost P S l w) := by
  by_cases h : chkE P l S = 0
  · by_cases h10 : l.length ≤ 10
    · have g := good_of h
      have g1 := g.b1
      have g2 := g.b2
      obtain ⟨p, rfl⟩ : ∃ p : Nat, P = p := ⟨P.toNat, by omega⟩
      obtain ⟨s, rfl⟩ : ∃ s : Nat, S = s := ⟨S.toNat, by omega⟩
      refine (cBest_ins p s A l c w H hr hH (wok_of g.sh) h h10 hlc).mono fun e w' ⟨A', c', h1, h2, h3⟩ => ?_
      have eL : bestL p s l = rst p s ((bestO p s l).map (xAt l)) (-1) := by unfold bestL; rw [if_pos ⟨h, h10⟩]
      have eE : bestE p s l = 0 := by unfold bestE; rw [if_pos h, if_pos h10]
      exact ⟨A', c', by rw [h1, eL, eE], by rw [eL]; exact h2, h3⟩
    · exact (cBest_long P S A l c w H hr hH hw h hl (by omega)).mono fun e w' hh => bestPost_nil (by unfold bestL; rw [if_neg (fun h' => h10 h'.2)]) (by unfold bestE; rw [if_pos h, if_neg h10]) hh
  · exact (cBest_err P S A l c w H hr hH hw h hl).mono fun e w' hh => bestPost_nil (by unfold bestL; rw [if_neg (fun h' => h h'.1)]) (by unfold bestE; rw [if_neg h]) hh
theorem rBest_all (P S : Int) (A : Option Addr) (l : List Tri) (c : Nat) (w : World) (H : Nat) (hr : RdT w H A l) (hH : H ≤ w.heap.size)
    (hw : ∀ (k : Nat) (hk : k < l.length), l[k].s.size ≤ 9223372036854775807) (hl : l.length ≤ 9223372036854775807) :
    Calls Try.prog 16 #[.agg #[.int .i64 P, .slice A l.length c], .int .i64 S] w (BestPost P S l w) := by
  by_cases h : chkE P l S = 0
  · by_cases h10 : l.length ≤ 10
    · have g := good_of h
      have g1 := g.b1
      have g2 := g.b2
      obtain ⟨p, rfl⟩ : ∃ p : Nat, P = p := ⟨P.toNat, by omega⟩
      obtain ⟨s, rfl⟩ : ∃ s : Nat, S = s := ⟨S.toNat, by omega⟩
      refine (rBest_ok p s A l c w H hr hH (wok_of g.sh) h h10).mono fun e w' ⟨v, h1, h2, h3⟩ => ?_
      have eL : bestL p s l = rst p s ((bestO p s l).map (xAt l)) (-1) := by unfold bestL; rw [if_pos ⟨h, h10⟩]
      have eE : bestE p s l = 0 := by unfold bestE; rw [if_pos h, if_pos h10]
      obtain ⟨A', c', hv, _, hd⟩ := Own.rd tri_len h2
      exact ⟨A', c', by rw [h1, eL, eE, hv], by rw [eL]; exact hd, h3⟩
    · exact (rBest_long P S A l c w H hr hH hw h hl (by omega)).mono fun e w' hh => bestPost_nil (by unfold bestL; rw [if_neg (fun h' => h10 h'.2)]) (by unfold bestE; rw [if_pos h, if_neg h10]) hh
  · exact (rBest_err P S A l c w H hr hH hw h hl).mono fun e w' hh => bestPost_nil (by unfold bestL; rw [if_neg (fun h' => h h'.1)]) (by unfold bestE; rw [if_neg h]) hh
theorem bestL_len (P S : Int) (l : List Tri) : (bestL P S l).length ≤ 1000 := by
  unfold bestL
  split
  · rename_i h
    have := rst_len P S ((bestO P S l).map (xAt l)) (-1)
    rw [List.length_map, (bestO_lin (p := P) (s := S) h.2).2] at this
    omega
  · simp

set_option maxRecDepth 100000 in
set_option maxHeartbeats 2000000 in
theorem lawBest_any (P S : Int) (A : Option Addr) (l : List Tri) (c : Nat) (w : World) (H : Nat) (hr : RdT w H A l) (hH : H ≤ w.heap.size)
    (hw : ∀ (k : Nat) (hk : k < l.length), l[k].s.size ≤ 9223372036854775807) (hl : l.length ≤ 9223372036854775807) (hlc : l.length ≤ c) :
    Calls Try.prog 4 #[.agg #[.int .i64 P, .slice A l.length c], .int .i64 S] w (Ret (.bool true) w) := by
  have HW := Lib.hid hw
  have HRB := Lib.hid (show ∀ w', Below w.heap.size w w' → RdT w' H A l from fun w' hB => hr.below' hB hH)
  have hB0 : Below w.heap.size w (w.alloc (.cells #[.int .i64 P, .slice A l.length c] 24)) := by (repeat' first | exact Below.refl _ _ | apply Below.drew | (refine Below.setCells ?_ _ _ ?_) | (refine Below.setCell ?_ ?_ _) | (refine Below.alloc ?_ ?_ _) | (simp; done) | (simp; omega))
  have kS := Blk.new w 24 #[.int .i64 P, .slice A l.length c]
  obtain ⟨L, hL⟩ : ∃ L, Hid (bestL P S l = L) := ⟨_, Lib.hid rfl⟩
  obtain ⟨E, hE⟩ : ∃ E, Hid (bestE P S l = E) := ⟨_, Lib.hid rfl⟩
  have hLn : L.length ≤ 1000 := by rw [← hL.out]; exact bestL_len P S l
  have HCB := Lib.hid (fun (w' : World) (hB : Below w.heap.size w w') => cBest_all P S A l c w' H (HRB.out w' hB) (Nat.le_trans hH hB.size) hw hl hlc)
  have HRBB := Lib.hid (fun (w' : World) (hB : Below w.heap.size w w') => rBest_all P S A l c w' H (HRB.out w' hB) (Nat.le_trans hH hB.size) hw hl)
  clear hw hr
  rcases (show ((7 : Int) < (l.length : Int) ∧ (l.length : Int) ≤ 10) ∨ ((7 : Int) < (l.length : Int) ∧ ¬ (l.length : Int) ≤ 10 ∧ (450 : Int) < (l.length : Int)) ∨ ((7 : Int) < (l.length : Int) ∧ ¬ (l.length : Int) ≤ 10 ∧ ¬ (450 : Int) < (l.length : Int)) ∨ (¬ (7 : Int) < (l.length : Int) ∧ ¬ (450 : Int) < (l.length : Int)) from by omega) with ⟨h1, h2⟩ | ⟨h1, h2, h3⟩ | ⟨h1, h2, h3⟩ | ⟨h1, h3⟩
  all_goals
    go_enter Try.func4, Try.ntmps4
    go_wp2_with (first
      | (go_at_call 15; refine (HCB.out _ hB0).mono ?_; rintro e w2 ⟨A2, k2, rfl, hd2, hB2⟩; rw [hL.out] at hd2 ⊢; rw [hE.out]
         have hB2' := hB0.trans (hB2.mono hB0.size)
         have kS2 := kS.below' hB2
         have d0 := kS2.cell 0 (.int .i64 P) rfl
         have d1 := kS2.cell 1 (.slice A l.length c) rfl
         have n2 := kS2.lt)
      | (go_at_call 16; refine (HRBB.out _ hB2').mono ?_; rintro e w3 ⟨A3, k3, rfl, hd3, hB3⟩; rw [hL.out] at hd3 ⊢; rw [hE.out]
         have hB3' := hB2'.trans (hB3.mono hB2'.size))
      | (go_at_call 14; refine (sameSteps_eq A2 A3 L k2 k3 w3 w3.heap.size (by omega) ((hd2.below hB3).more hB3.size) hd3 (Nat.le_refl _)).mono ?_; rintro e w4 ⟨rfl, hB4⟩
         have hB4' := hB3'.trans (hB4.mono hB3'.size))
      | (go_at_call 11; refine (awake_any _).mono ?_; rintro e w7 ⟨rfl, hB7⟩))
    go_ret
    first
      | exact Ret.bool rfl (hB4'.trans (hB7.mono hB4'.size))
      | exact Ret.bool rfl (hB0.trans (hB7.mono hB0.size))
end Go.Proofs.Ytogkgoabonbkkaa
