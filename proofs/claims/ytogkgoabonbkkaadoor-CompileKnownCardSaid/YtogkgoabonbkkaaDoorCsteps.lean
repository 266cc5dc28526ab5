/- compile.steps. -/
import Derived.Test.YtogkgoabonbkkaaDoorWin
set_option linter.unusedSimpArgs false
set_option linter.unusedVariables false
namespace Go.Proofs.YtogkgoabonbkkaaDoor
open Go Go.RowKit Tor

/-- block g is just these cells, none of them frozen -/
def Blk (w : World) (g : Nat) (t : TypeId) (cs : Array Value) : Prop := w.heap[g]? = some (.cells cs t (0, 0))
theorem Blk.lt {w : World} {g : Nat} {t : TypeId} {cs : Array Value} (h : Blk w g t cs) : g < w.heap.size := by
  rcases Nat.lt_or_ge g w.heap.size with hlt | hge
  · exact hlt
  · unfold Blk at h; rw [Array.getElem?_eq_none hge] at h; cases h
theorem Blk.cell {w : World} {g : Nat} {t : TypeId} {cs : Array Value} (h : Blk w g t cs) (i : Nat) (v : Value) (hv : cs[i]? = some v) : w.cell? ⟨g, i, none⟩ = some v := by
  unfold Blk at h; simp [World.cell?, h, hv]
theorem Blk.frozen {w : World} {g : Nat} {t : TypeId} {cs : Array Value} (h : Blk w g t cs) (i : Nat) : w.frozen? ⟨g, i, none⟩ = false := by
  unfold Blk at h; simp [World.frozen?, h]
theorem Blk.new (w : World) (t : TypeId) (cs : Array Value) : Blk (w.alloc (.cells cs t)) w.heap.size t cs := heap_alloc_new w _
theorem Blk.below {w w' : World} {g : Nat} {t : TypeId} {cs : Array Value} (h : Blk w g t cs) {B : Nat} (hb : Below B w w') (hg : g < B) : Blk w' g t cs := (hb.block g hg).trans h
theorem Blk.below' {w w' : World} {g : Nat} {t : TypeId} {cs : Array Value} (h : Blk w g t cs) (hb : Below w.heap.size w w') : Blk w' g t cs := h.below hb h.lt
theorem Blk.alloc {w : World} {g : Nat} {t : TypeId} {cs : Array Value} (h : Blk w g t cs) (o : Obj) : Blk (w.alloc o) g t cs := (Below.heap_alloc w o g h.lt).trans h
theorem Blk.set_ {w : World} {g : Nat} {t : TypeId} {cs : Array Value} (h : Blk w g t cs) (i : Nat) (u : Value) : Blk (w.setCell ⟨g, i, none⟩ u) g t (cs.setIfInBounds i u) := by
  unfold Blk at h ⊢
  simp [World.setCell, Array.getElem?_modify, h]
theorem Blk.far {w : World} {g : Nat} {t : TypeId} {cs : Array Value} (h : Blk w g t cs) {p : Addr} (hp : g ≠ p.block) (u : Value) : Blk (w.setCell p u) g t cs := (Below.heap_setCell w p u g hp).trans h
theorem Blk.grown {w w' : World} {g : Nat} {t : TypeId} {cs : Array Value} (h : Blk w g t cs) {row : Option Nat} (hb : w.grownBy w' row) (hg : some g ≠ row) : Blk w' g t cs := (hb.block g h.lt hg).trans h

theorem nc {w w5 : World} {cs : Array Value} {t : TypeId} (hB : Below ((w.alloc (.cells cs t)).drew).heap.size ((w.alloc (.cells cs t)).drew) w5) : Blk w5 w.heap.size t cs :=
  Blk.below' (w := (w.alloc (.cells cs t)).drew) (Blk.new w t cs) hB
theorem nc' {w w5 : World} {cs : Array Value} {t : TypeId} (hB : Below ((w.alloc (.cells cs t))).heap.size ((w.alloc (.cells cs t))) w5) : Blk w5 w.heap.size t cs :=
  Blk.below' (w := (w.alloc (.cells cs t))) (Blk.new w t cs) hB


/-- what a region that draws keeps: old memory, and two cells in it -/
theorem keep2_call {w0 w1 w2 : World} {a0 a1 : Addr} {v0 v1 : Value} (hS : Below w0.heap.size w0 w1 ∧ w1.cell? a0 = some v0 ∧ w1.cell? a1 = some v1) (h0 : a0.block < w0.heap.size) (h1 : a1.block < w0.heap.size) (hB : Below w1.heap.size w1 w2) :
    Below w0.heap.size w0 w2 ∧ w2.cell? a0 = some v0 ∧ w2.cell? a1 = some v1 :=
  ⟨hS.1.trans (hB.mono hS.1.size), (hB.cell (Nat.lt_of_lt_of_le h0 hS.1.size)).trans hS.2.1, (hB.cell (Nat.lt_of_lt_of_le h1 hS.1.size)).trans hS.2.2⟩
theorem keep2_alloc {w0 w1 : World} {a0 a1 : Addr} {v0 v1 : Value} (hS : Below w0.heap.size w0 w1 ∧ w1.cell? a0 = some v0 ∧ w1.cell? a1 = some v1) (h0 : a0.block < w0.heap.size) (h1 : a1.block < w0.heap.size) (o : Obj) :
    Below w0.heap.size w0 (w1.alloc o) ∧ (w1.alloc o).cell? a0 = some v0 ∧ (w1.alloc o).cell? a1 = some v1 :=
  keep2_call hS h0 h1 ((Below.refl _ _).alloc (Nat.le_refl _) _)
theorem keep2_set {w0 w1 : World} {a0 a1 : Addr} {v0 v1 : Value} (hS : Below w0.heap.size w0 w1 ∧ w1.cell? a0 = some v0 ∧ w1.cell? a1 = some v1) (h0 : a0.block < w0.heap.size) (h1 : a1.block < w0.heap.size) {p q : Addr} (hp : w0.heap.size ≤ p.block) (hq : w0.heap.size ≤ q.block) (u v : Value) :
    Below w0.heap.size w0 ((w1.setCell p u).setCell q v) ∧ ((w1.setCell p u).setCell q v).cell? a0 = some v0 ∧ ((w1.setCell p u).setCell q v).cell? a1 = some v1 := by
  have hB : Below w0.heap.size w1 ((w1.setCell p u).setCell q v) := ((Below.refl _ _).setCell hp u).setCell hq v
  exact ⟨hS.1.trans hB, (hB.cell h0).trans hS.2.1, (hB.cell h1).trans hS.2.2⟩
theorem of_at (p : Int) (A : Option Addr) (l : List Tri) (c : Nat) (s : Int) (k : Nat) (b o : Nat) {w0 w : World} (hB : Below w0.heap.size w0 w) (H : Nat) (hr : RdT w0 H A l) (hH : H ≤ w0.heap.size) (hp : w0.cell? ⟨b, o, none⟩ = some (.int .i64 p)) (hq : w0.cell? ⟨b, o + 1, none⟩ = some (.slice A l.length c))
    (hi : k < l.length) (b1 : 0 ≤ s) (b2 : s ≤ 1000) (b3 : 0 ≤ p) (b4 : p ≤ 1000) (b5 : 0 ≤ l[k].b) (b6 : l[k].b ≤ 1000) :
    Calls Tryd.prog 43 #[.pointer (some ⟨b, o, none⟩), .int .i64 s, .int .i64 k] w (Ret (.agg #[.int .i64 (max 0 (l[k].b + 2 - s)), .int .i64 (min l[k].b (p - s))]) w) :=
  of_any p A l c s k b o w H (hr.below' hB hH) ((hB.cell (p := ⟨b, _, none⟩) (lt_of_cell hp)).trans hp) ((hB.cell (p := ⟨b, _, none⟩) (lt_of_cell hp)).trans hq) hi b1 b2 b3 b4 b5 b6

theorem WinEnd.reach {p s hands lo : Int} {l : List Tri} {i m : Nat} (hw : WinEnd p s l i m lo) (hi : i < l.length) (hn : heldB hands s l[i].b = false) : rst p s (l.drop i) hands = ⟨1, lo, .empty⟩ :: rst p s (l.drop i) lo := by
  have h0 : 0 ≤ lo := hw.1.choose_spec.2.2.1
  have him : i < m := hw.1.choose_spec.1
  obtain ⟨b, rfl⟩ := Int.eq_ofNat_of_zero_le h0
  rw [rst_reach hi hn hw.best.symm, rst_held hi (hw.held i (Nat.le_refl _) him hi)]


set_option maxRecDepth 100000 in
set_option maxHeartbeats 4000000 in
theorem csteps_any (p : Int) (A : Option Addr) (l : List Tri) (c : Nat) (s : Int) (sb so : Nat) (w : World) (H : Nat) (hr : RdT w H A l) (hH : H ≤ w.heap.size)
    (hp : w.cell? ⟨sb, so, none⟩ = some (.int .i64 p)) (hq : w.cell? ⟨sb, so + 1, none⟩ = some (.slice A l.length c))
    (hb : ∀ (k : Nat) (hk : k < l.length), 0 ≤ l[k].b ∧ l[k].b ≤ p - 2) (hl : l.length ≤ 1000) (b1 : 2 ≤ s) (b2 : s ≤ p) (b3 : p ≤ 24) :
    Calls Tryd.prog 30 #[.pointer (some ⟨sb, so, none⟩), .int .i64 s] w fun e w' => ∃ v, e = .returned v ∧ Own 3 Tri.enc w' w.heap.size 33 v (rst p s l (-1)) ∧ Below w.heap.size w w' := by
  obtain ⟨i0, hi0, hz0', hz1', hz2'⟩ := info_parts infoStep
  have HH := Lib.hid hb
  have hsb := lt_of_cell hp
  have HP := Lib.hid hp
  have HQ := Lib.hid hq
  clear hb hp hq
  go_enter Tryd.func30, Tryd.ntmps30
  go_wp2
  go_loopw [5, 6] (fun v k wr => ∃ (j : Nat) (done : List Tri) (hands : Int), j ≤ l.length ∧ k = .int .i64 j ∧ Hid (rst p s l (-1) = done ++ rst p s (l.drop j) hands) ∧ Hid (∀ hj : j < l.length, heldB hands s l[j].b = false) ∧ done.length ≤ 2 * j ∧
      Own 3 Tri.enc wr w.heap.size 33 v done ∧ Below w.heap.size w wr) (fun _ k _ => l.length - (intOf k).toNat)
  case atStart => exact ⟨0, [], -1, Nat.zero_le _, rfl, by simp [Hid], fun h => by simp [heldB], by simp, Own.nil _ _ _, Below.refl _ _⟩
  case round =>
    obtain ⟨j, done, hands, hj, rfl, hinv, hnh, hdl, hown, hB⟩ := hrel
    have hP := (hB.cell (p := ⟨sb, _, none⟩) hsb).trans HP.out
    have hQ := (hB.cell (p := ⟨sb, _, none⟩) hsb).trans HQ.out
    have hsr := lt_of_cell hP
    by_cases hlt : j < l.length
    · have hrr := hr.below' hB hH
      have hHr : H ≤ wr.heap.size := Nat.le_trans hH hB.size
      have hbd := HH.out j hlt
      go_wp2_with (go_at_call 43; refine (of_any p A l c s j sb so wr H hrr hP hQ hlt (by omega) (by omega) (by omega) (by omega) (by omega) (by omega)).mono ?_; rintro e w1 ⟨rfl, hB1⟩)
      have hW0 := Lib.hid (Win.start hlt hbd.1 hbd.2 b1 b2)
      have hown1 := hown.below hB1
      have hz1 := hB1.size
      have hz0 := hB.size
      have hB1' := hB.trans (hB1.mono hB.size)
      clear hrr hHr hown
      obtain ⟨wo, rfl⟩ : ∃ wo : World, wo = wr := ⟨_, rfl⟩
      go_loopw [8] (fun k wr => ∃ (m : Nat) (lo hi : Int), k = .int .i64 m ∧ j < m ∧ m ≤ l.length ∧ 0 ≤ lo ∧ lo ≤ hi ∧ hi ≤ 24 ∧ Hid (Win p s l j m lo hi) ∧ Blk wr w1.heap.size 84 #[.int .i64 lo, .int .i64 hi] ∧ Below w1.heap.size w1 wr) (fun k _ => l.length - (intOf k).toNat)
      case atStart => exact ⟨j + 1, _, _, by go_num, by omega, by omega, by omega, by omega, by omega, hW0, Blk.new _ _ _, (Below.refl _ _).alloc (Nat.le_refl _) _⟩
      case round =>
        obtain ⟨m, lo, hi, rfl, hjm, hml, hlo, hlh, hhi, hwin, hblk, hBm⟩ := hrel
        have hP' := (hBm.cell (p := ⟨sb, _, none⟩) (by show sb < _; omega)).trans ((hB1.cell (p := ⟨sb, _, none⟩) hsr).trans hP)
        have hQ' := (hBm.cell (p := ⟨sb, _, none⟩) (by show sb < _; omega)).trans ((hB1.cell (p := ⟨sb, _, none⟩) hsr).trans hQ)
        have hl0 := hblk.cell 0 (.int .i64 lo) rfl
        have hl1 := hblk.cell 1 (.int .i64 hi) rfl
        have hf0 := hblk.frozen 0
        have hf1 := hblk.frozen 1
        have hzm := hBm.size
        have hlt1 := hblk.lt
        by_cases hml' : m < l.length
        · have hbm := HH.out m hml'
          have hrm := hr.below' (hB1'.trans (hBm.mono (by omega))) hH
          by_cases ho : max lo (max 0 (l[m].b + 2 - s)) ≤ min hi (min l[m].b (p - s))
          · have hwin2 := Lib.hid (hwin.out.next hml' ho)
            go_wp2
            go_region_held3 (fun w' => Below wr.heap.size wr w' ∧ w'.cell? ⟨w1.heap.size, 0, none⟩ = some (.int .i64 lo) ∧ w'.cell? ⟨w1.heap.size, 1, none⟩ = some (.int .i64 hi))
              (first | exact ⟨(Below.refl _ _).drew, hl0, hl1⟩ | exact hS5 | exact hS6 | exact keep2_call (by assumption) hlt1 hlt1 (by assumption) | exact keep2_alloc (by assumption) hlt1 hlt1 _ | exact keep2_set hS6 hlt1 hlt1 hS5.1.size hS5.1.size _ _ | exact keep2_set hS6 hlt1 hlt1 (Nat.le_refl _) (Nat.le_refl _) _ _ | exact keep2_alloc hS6 hlt1 hlt1 _)
              (first
                | (go_at_call 43; refine (of_at p A l c s m sb so (w0 := wr) (And.left (by assumption)) H hrm (by omega) hP' hQ' hml' (by omega) (by omega) (by omega) (by omega) (by omega) (by omega)).mono ?_; rintro e w5 ⟨rfl, hB5⟩
                   have hS5 := keep2_call (w0 := wr) (a0 := ⟨w1.heap.size, 0, none⟩) (a1 := ⟨w1.heap.size, 1, none⟩) (by assumption) hlt1 hlt1 hB5
                   try have hK5 := nc hB5)
                | (go_at_call 44; refine (and_any _ _ _ _ _).mono ?_; rintro e w6 ⟨rfl, hB6⟩
                   have hS6 := keep2_call (w0 := wr) (a0 := ⟨w1.heap.size, 0, none⟩) (a1 := ⟨w1.heap.size, 1, none⟩) (by assumption) hlt1 hlt1 hB6
                   try (first | have hk := nc' hB6 | have hk := nc hB6 | have hk := hK5.below' hB6
                        have c0 := hk.cell 0 (.int .i64 0) rfl
                        have c1 := hk.cell 1 (.int .i64 0) rfl
                        have f0 := hk.frozen 0
                        have f1 := hk.frozen 1)))
            all_goals
              go_wp2_with fail
              refine (open_any _ _ _).mono ?_
              rintro e w7 ⟨rfl, hB7⟩
              have hS7 := keep2_call (w0 := wr) (a0 := ⟨w1.heap.size, 0, none⟩) (a1 := ⟨w1.heap.size, 1, none⟩) (by assumption) hlt1 hlt1 hB7
              have hkq := hblk.below' hS7.1
              first | have hn := nc' hB7 | have hn := ((hk.set_ 0 _).set_ 1 _).below' hB7
              have d0 := hn.cell 0 (.int .i64 (max lo (max 0 (l[m].b + 2 - s)))) rfl
              have d1 := hn.cell 1 (.int .i64 (min hi (min l[m].b (p - s)))) rfl
              have e0 := hkq.cell 0 (.int .i64 lo) rfl
              have e1 := hkq.cell 1 (.int .i64 hi) rfl
              have g0 := hkq.frozen 0
              have g1 := hkq.frozen 1
              have hBq : Below w1.heap.size w1 w7 := hBm.trans (hS7.1.mono hzm)
              clear hS7 hB7
            all_goals
              go_wp2
              go_roundw
              case rel => exact ⟨m + 1, _, _, by go_num, by omega, by omega, by omega, ho, by omega, hwin2, by simpa using (hkq.set_ 0 _).set_ 1 _, (hBq.setCell (Nat.le_refl _) _).setCell (Nat.le_refl _) _⟩
              case measure => simp [intOf]; omega
          · have hend := Lib.hid (WinEnd.shut hwin.out hml' ho)
            have ho' : decide (max lo (max 0 (l[m].b + 2 - s)) ≤ min hi (min l[m].b (p - s))) = false := by simpa using ho
            have hlom : lo ≤ hi := hlh
            go_wp2
            go_region_held3 (fun w' => Below wr.heap.size wr w' ∧ w'.cell? ⟨w1.heap.size, 0, none⟩ = some (.int .i64 lo) ∧ w'.cell? ⟨w1.heap.size, 1, none⟩ = some (.int .i64 hi))
              (first | exact ⟨(Below.refl _ _).drew, hl0, hl1⟩ | exact hS5 | exact hS6 | exact keep2_call (by assumption) hlt1 hlt1 (by assumption) | exact keep2_alloc (by assumption) hlt1 hlt1 _ | exact keep2_set hS6 hlt1 hlt1 hS5.1.size hS5.1.size _ _ | exact keep2_set hS6 hlt1 hlt1 (Nat.le_refl _) (Nat.le_refl _) _ _ | exact keep2_alloc hS6 hlt1 hlt1 _)
              (first
                | (go_at_call 43; refine (of_at p A l c s m sb so (w0 := wr) (And.left (by assumption)) H hrm (by omega) hP' hQ' hml' (by omega) (by omega) (by omega) (by omega) (by omega) (by omega)).mono ?_; rintro e w5 ⟨rfl, hB5⟩
                   have hS5 := keep2_call (w0 := wr) (a0 := ⟨w1.heap.size, 0, none⟩) (a1 := ⟨w1.heap.size, 1, none⟩) (by assumption) hlt1 hlt1 hB5
                   try have hK5 := nc hB5)
                | (go_at_call 44; refine (and_any _ _ _ _ _).mono ?_; rintro e w6 ⟨rfl, hB6⟩
                   have hS6 := keep2_call (w0 := wr) (a0 := ⟨w1.heap.size, 0, none⟩) (a1 := ⟨w1.heap.size, 1, none⟩) (by assumption) hlt1 hlt1 hB6
                   try (first | have hk := nc' hB6 | have hk := nc hB6 | have hk := hK5.below' hB6
                        have c0 := hk.cell 0 (.int .i64 0) rfl
                        have c1 := hk.cell 1 (.int .i64 0) rfl
                        have f0 := hk.frozen 0
                        have f1 := hk.frozen 1)))
            all_goals
              go_wp2_with fail
              refine (open_any _ _ _).mono ?_
              rintro e w7 ⟨rfl, hB7⟩
              have hS7 := keep2_call (w0 := wr) (a0 := ⟨w1.heap.size, 0, none⟩) (a1 := ⟨w1.heap.size, 1, none⟩) (by assumption) hlt1 hlt1 hB7
              have hkq := hblk.below' hS7.1
              first | have hn := nc' hB7 | have hn := ((hk.set_ 0 _).set_ 1 _).below' hB7
              have d0 := hn.cell 0 (.int .i64 (max lo (max 0 (l[m].b + 2 - s)))) rfl
              have d1 := hn.cell 1 (.int .i64 (min hi (min l[m].b (p - s)))) rfl
              have e0 := hkq.cell 0 (.int .i64 lo) rfl
              have e1 := hkq.cell 1 (.int .i64 hi) rfl
              have g0 := hkq.frozen 0
              have g1 := hkq.frozen 1
              have hBq : Below w1.heap.size w1 w7 := hBm.trans (hS7.1.mono hzm)
              clear hS7 hB7
            all_goals
              rw [ho']
              have hown2 := hown1.below hBq
              have hz2 := hBq.size
              have hC2 : Below w.heap.size w w7 := hB1'.trans (hBq.mono (by omega))
              clear hown1 hBm hB1 hB1' hblk hB hBq hkq hwin
              go_wp2_with (at_builtin; refine wpList_append_tri rfl (.tmp 42) (.tmp 46) _ rfl w.heap.size _ i0 _ Tryd.underlying22 hi0 hz0' hz1' hz2' rfl _ done rfl (hown2.alloc _) w7.heap.size ⟨1, lo, .empty⟩ rfl (World.cell?_alloc_new _ _ _ 0) (World.cell?_alloc_new _ _ _ 1) (World.cell?_alloc_new _ _ _ 2) (by omega) (by have := hC2.size; simp; omega) ?_; intro v' w8 hown8 hg8; have hC8 := (hown2.alloc _).grown (hC2.alloc hC2.size _) hg8 (by have := hC2.size; simp; omega))
              clear hown2 hC2 hg8
              go_loopw [5, 6] (fun v k wr => ∃ (j3 : Nat) (done3 : List Tri), j ≤ j3 ∧ j3 ≤ m ∧ k = .int .i64 j3 ∧ Hid (rst p s l (-1) = done3 ++ rst p s (l.drop j3) lo) ∧ done3.length ≤ j + 1 + j3 ∧
                  Own 3 Tri.enc wr w.heap.size 33 v done3 ∧ Below w.heap.size w wr) (fun _ k _ => m - (intOf k).toNat)
              case atStart => exact ⟨j, done ++ [⟨1, lo, .empty⟩], Nat.le_refl _, by omega, rfl, by rw [Hid, hinv.out, (hend.out).reach hlt (hnh.out hlt)]; simp, by simp; omega, hown8, hC8⟩
              case round =>
                obtain ⟨j3, done3, hjj, hjm3, rfl, hinv3, hdl3, hown3, hC3⟩ := hrel
                have hP3 := (hC3.cell (p := ⟨sb, _, none⟩) hsb).trans HP.out
                have hQ3 := (hC3.cell (p := ⟨sb, _, none⟩) hsb).trans HQ.out
                have hz3 := hC3.size
                by_cases hlt3 : j3 < m
                · have hlt4 : j3 < l.length := by omega
                  obtain ⟨b', o', rfl, hb0', h0', h1', h2'⟩ := (hr.below' hC3 hH).tri hlt4
                  have HI := Lib.hid (rst_held (p := p) hlt4 (hend.out.held j3 hjj hlt3 hlt4))
                  go_wp2_with (first
                    | (go_at_call 18; refine (step_any _ _).mono ?_; rintro e w9 ⟨rfl, hB9⟩)
                    | (at_builtin; refine wpList_append_tri rfl (.tmp 53) (.tmp 62) _ rfl w.heap.size _ i0 _ Tryd.underlying22 hi0 hz0' hz1' hz2' rfl _ done3 rfl ((hown3.below hB9).alloc _) w9.heap.size (stepOf l[j3]) rfl (World.cell?_alloc_new _ _ _ 0) (World.cell?_alloc_new _ _ _ 1) (World.cell?_alloc_new _ _ _ 2) (by omega) (by have := hB9.size; simp; omega) ?_; intro v' w10 hown10 hg10))
                  go_roundw
                  case rel => exact ⟨j3 + 1, done3 ++ [stepOf l[j3]], by omega, by omega, by go_num, by rw [Hid, hinv3.out, HI.out]; simp, by simp; omega, hown10, ((hown3.below hB9).alloc _).grown ((hC3.trans (hB9.mono hz3)).alloc (by have := hB9.size; omega) _) hg10 (by have := hB9.size; simp; omega)⟩
                  case measure => simp [intOf]; omega
                · have hjj3 : j3 = m := by omega
                  subst hjj3
                  go_wp2
                  go_roundw
                  case rel => exact ⟨j3, done3, lo, by omega, rfl, hinv3, fun hj3 => hend.out.next hj3, by omega, hown3, hC3⟩
                  case measure => simp [intOf]; omega
        · have hend := Lib.hid (WinEnd.all hwin.out hml')
          have hBq := hBm
          have hkq := hblk
          have hown2 := hown1.below hBq
          have hz2 := hBq.size
          have hC2 : Below w.heap.size w wr := hB1'.trans (hBq.mono (by omega))
          clear hown1 hBm hB1 hB1' hblk hB hBq hkq hwin
          go_wp2_with (at_builtin; refine wpList_append_tri rfl (.tmp 42) (.tmp 46) _ rfl w.heap.size _ i0 _ Tryd.underlying22 hi0 hz0' hz1' hz2' rfl _ done rfl (hown2.alloc _) wr.heap.size ⟨1, lo, .empty⟩ rfl (World.cell?_alloc_new _ _ _ 0) (World.cell?_alloc_new _ _ _ 1) (World.cell?_alloc_new _ _ _ 2) (by omega) (by have := hC2.size; simp; omega) ?_; intro v' w8 hown8 hg8; have hC8 := (hown2.alloc _).grown (hC2.alloc hC2.size _) hg8 (by have := hC2.size; simp; omega))
          clear hown2 hC2 hg8
          go_loopw [5, 6] (fun v k wr => ∃ (j3 : Nat) (done3 : List Tri), j ≤ j3 ∧ j3 ≤ m ∧ k = .int .i64 j3 ∧ Hid (rst p s l (-1) = done3 ++ rst p s (l.drop j3) lo) ∧ done3.length ≤ j + 1 + j3 ∧
              Own 3 Tri.enc wr w.heap.size 33 v done3 ∧ Below w.heap.size w wr) (fun _ k _ => m - (intOf k).toNat)
          case atStart => exact ⟨j, done ++ [⟨1, lo, .empty⟩], Nat.le_refl _, by omega, rfl, by rw [Hid, hinv.out, (hend.out).reach hlt (hnh.out hlt)]; simp, by simp; omega, hown8, hC8⟩
          case round =>
            obtain ⟨j3, done3, hjj, hjm3, rfl, hinv3, hdl3, hown3, hC3⟩ := hrel
            have hP3 := (hC3.cell (p := ⟨sb, _, none⟩) hsb).trans HP.out
            have hQ3 := (hC3.cell (p := ⟨sb, _, none⟩) hsb).trans HQ.out
            have hz3 := hC3.size
            by_cases hlt3 : j3 < m
            · have hlt4 : j3 < l.length := by omega
              obtain ⟨b', o', rfl, hb0', h0', h1', h2'⟩ := (hr.below' hC3 hH).tri hlt4
              have HI := Lib.hid (rst_held (p := p) hlt4 (hend.out.held j3 hjj hlt3 hlt4))
              go_wp2_with (first
                | (go_at_call 18; refine (step_any _ _).mono ?_; rintro e w9 ⟨rfl, hB9⟩)
                | (at_builtin; refine wpList_append_tri rfl (.tmp 53) (.tmp 62) _ rfl w.heap.size _ i0 _ Tryd.underlying22 hi0 hz0' hz1' hz2' rfl _ done3 rfl ((hown3.below hB9).alloc _) w9.heap.size (stepOf l[j3]) rfl (World.cell?_alloc_new _ _ _ 0) (World.cell?_alloc_new _ _ _ 1) (World.cell?_alloc_new _ _ _ 2) (by omega) (by have := hB9.size; simp; omega) ?_; intro v' w10 hown10 hg10))
              go_roundw
              case rel => exact ⟨j3 + 1, done3 ++ [stepOf l[j3]], by omega, by omega, by go_num, by rw [Hid, hinv3.out, HI.out]; simp, by simp; omega, hown10, ((hown3.below hB9).alloc _).grown ((hC3.trans (hB9.mono hz3)).alloc (by have := hB9.size; omega) _) hg10 (by have := hB9.size; simp; omega)⟩
              case measure => simp [intOf]; omega
            · have hjj3 : j3 = m := by omega
              subst hjj3
              go_wp2
              go_roundw
              case rel => exact ⟨j3, done3, lo, by omega, rfl, hinv3, fun hj3 => hend.out.next hj3, by omega, hown3, hC3⟩
              case measure => simp [intOf]; omega
    · go_wp2
      go_ret
      exact ⟨_, rfl, by rw [hinv.out, rst_end hlt]; simpa using hown, hB⟩
end Go.Proofs.YtogkgoabonbkkaaDoor
