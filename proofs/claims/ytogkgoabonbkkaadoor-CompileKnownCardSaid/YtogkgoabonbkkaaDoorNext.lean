/- compile.planner.next. -/
import Derived.Test.YtogkgoabonbkkaaDoorFree
import Derived.Test.YtogkgoabonbkkaaDoorOrd
import Derived.BigRegion
set_option linter.unusedSimpArgs false
set_option linter.unusedVariables false
namespace Go.Proofs.YtogkgoabonbkkaaDoor
open Go Go.RowKit Tor

/-- the places from which a work is in reach -/
def wlo (s : Int) (x : Tri) : Int := max 0 (x.b + 2 - s)
def whi (p s : Int) (x : Tri) : Int := min x.b (p - s)

/-- does work x need no reach, if the hands may lie in lo..hi? -/
def joinB (p s : Int) (x : Tri) (lo hi : Int) : Bool := decide (lo ≤ hi) && decide (max (wlo s x) lo ≤ min (whi p s x) hi)

def nlo (s : Int) (x : Tri) (lo : Int) (j : Bool) : Int := if j then max (wlo s x) lo else wlo s x
def nhi (p s : Int) (x : Tri) (hi : Int) (j : Bool) : Int := if j then min (whi p s x) hi else whi p s x
def nn (j : Bool) : Int := if j then 0 else 1

theorem of_at' (p : Int) (A : Option Addr) (l : List Tri) (c : Nat) (s : Int) (k : Nat) (b o : Nat) {w0 w : World} (hB : Below w0.heap.size w0 w) (H : Nat) (hr : RdT w0 H A l) (hH : H ≤ w0.heap.size) (hp : w0.cell? ⟨b, o, none⟩ = some (.int .i64 p)) (hq : w0.cell? ⟨b, o + 1, none⟩ = some (.slice A l.length c))
    (hi : k < l.length) (b1 : 0 ≤ s) (b2 : s ≤ 1000) (b3 : 0 ≤ p) (b4 : p ≤ 1000) (b5 : 0 ≤ l[k].b) (b6 : l[k].b ≤ 1000) :
    Calls Tryd.prog 43 #[.pointer (some ⟨b, o, none⟩), .int .i64 s, .int .i64 k] w (Ret (.agg #[.int .i64 (wlo s l[k]), .int .i64 (whi p s l[k])]) w) :=
  of_at p A l c s k b o hB H hr hH hp hq hi b1 b2 b3 b4 b5 b6

theorem keepB {w w' : World} {a0 a1 : Addr} {v0 v1 : Value} (h0 : w.cell? a0 = some v0) (h1 : w.cell? a1 = some v1) (hB : Below w.heap.size w w') :
    Below w.heap.size w w' ∧ w'.cell? a0 = some v0 ∧ w'.cell? a1 = some v1 :=
  ⟨hB, (hB.cell (World.block_lt_of_cell? w a0 h0)).trans h0, (hB.cell (World.block_lt_of_cell? w a1 h1)).trans h1⟩


set_option maxRecDepth 100000 in
set_option maxHeartbeats 2000000 in
theorem next_any (p : Int) (A : Option Addr) (l : List Tri) (c : Nat) (s : Int) (pb sb : Nat) (v2 v3 : Value) (d : Nat) (lo hi : Int) (i : Nat) (w : World) (H : Nat) (hr : RdT w H A l) (hH : H ≤ w.heap.size)
    (hp0 : w.cell? ⟨pb, 0, none⟩ = some (.pointer (some ⟨sb, 0, none⟩))) (hp1 : w.cell? ⟨pb, 1, none⟩ = some (.int .i64 s))
    (hs0 : w.cell? ⟨sb, 0, none⟩ = some (.int .i64 p)) (hs1 : w.cell? ⟨sb, 1, none⟩ = some (.slice A l.length c))
    (hi' : i < l.length) (hl : l.length ≤ 10) (hd : d < 1024) (b1 : 2 ≤ s) (b2 : s ≤ p) (b3 : p ≤ 24) (b4 : 0 ≤ l[i].b) (b5 : l[i].b ≤ p - 2) :
    Calls Tryd.prog 50 #[.pointer (some ⟨pb, 0, none⟩), .agg #[.int .i64 d, .int .i64 lo, .int .i64 hi], .int .i64 i] w
      (Ret (.tuple #[.agg #[.int .i64 ((d ||| 2 ^ i : Nat) : Int), .int .i64 (nlo s l[i] lo (joinB p s l[i] lo hi)), .int .i64 (nhi p s l[i] hi (joinB p s l[i] lo hi))], .int .i64 (nn (joinB p s l[i] lo hi))]) w) := by
  have i2 : (i : Int) ≤ 64 := by omega
  have i3 : (0 : Int) ≤ (i : Int) := by omega
  rcases (show (lo ≤ hi ∧ max (wlo s l[i]) lo ≤ min (whi p s l[i]) hi) ∨ (lo ≤ hi ∧ ¬ max (wlo s l[i]) lo ≤ min (whi p s l[i]) hi) ∨ (¬ lo ≤ hi) by by_cases h1 : lo ≤ hi <;> by_cases h2 : max (wlo s l[i]) lo ≤ min (whi p s l[i]) hi <;> simp [h1, h2]) with ⟨h1, h2⟩ | ⟨h1, h2⟩ | h1
  · have hd1 : decide (lo ≤ hi) = true := by simpa using h1
    have hd2 : decide (max (wlo s l[i]) lo ≤ min (whi p s l[i]) hi) = true := by simpa using h2
    have HJ := Lib.hid (show joinB p s l[i] lo hi = true by simp [joinB, hd1, hd2])
    clear h1 h2
    have l0 := lt_of_cell hp0
    have l1 := lt_of_cell hs0
    go_enter Tryd.func50, Tryd.ntmps50
    go_wp2
    have hk0 := (Blk.new w 95 #[.int .i64 d, .int .i64 lo, .int .i64 hi]).alloc (.cells #[.int .i64 0, .int .i64 0, .int .i64 0] 95)
    have hk1 := Blk.new (w.alloc (.cells #[.int .i64 d, .int .i64 lo, .int .i64 hi] 95)) 95 #[.int .i64 0, .int .i64 0, .int .i64 0]
    rw [World.size_alloc] at hk1
    have hBW : Below w.heap.size w ((w.alloc (.cells #[.int .i64 d, .int .i64 lo, .int .i64 hi] 95)).alloc (.cells #[.int .i64 0, .int .i64 0, .int .i64 0] 95)) := by (repeat' first | exact Below.refl _ _ | apply Below.drew | (refine Below.setCells ?_ _ _ ?_) | (refine Below.setCell ?_ ?_ _) | (refine Below.alloc ?_ ?_ _) | (simp; done) | (simp; omega))
    generalize (w.alloc (.cells #[.int .i64 d, .int .i64 lo, .int .i64 hi] 95)).alloc (.cells #[.int .i64 0, .int .i64 0, .int .i64 0] 95) = W at *
    refine wp_region_J (fun w' => w'.cell? ⟨pb, 0, none⟩ = some (.pointer (some ⟨sb, 0, none⟩)) ∧ w'.cell? ⟨pb, 1, none⟩ = some (.int .i64 s)) (fun _ => True) (fun _ => false) (by kernel_rfl) ?_
    have hB0 : Below w.heap.size w W.drew := hBW.drew
    have hS1 := keepB hp0 hp1 hB0
    replace hS1 := hS1.2
    refine wpAnyJ_take1 0 rfl (by kernel_rfl) (by kernel_rfl) rfl (by kernel_rfl) (fun _ _ _ h => h) (by rfl) hS1 (fun w' hSw => (by obtain ⟨c1, c2⟩ := hSw; go_simp; try (with_reducible rfl))) ?_
    try simp only [Act.put, List.setIfInBounds_toArray, List.set_cons_zero, List.set_cons_succ]
    refine wpAnyJ_take1 1 rfl (by kernel_rfl) (by kernel_rfl) rfl (by kernel_rfl) (fun _ _ _ h => h) (by rfl) hS1 (fun w' hSw => (by obtain ⟨c1, c2⟩ := hSw; go_simp; try (with_reducible rfl))) ?_
    try simp only [Act.put, List.setIfInBounds_toArray, List.set_cons_zero, List.set_cons_succ]
    refine wpAnyJ_take1 2 rfl (by kernel_rfl) (by kernel_rfl) rfl (by kernel_rfl) (fun _ _ _ h => h) (by rfl) hS1 (fun w' hSw => (by obtain ⟨c1, c2⟩ := hSw; go_simp; try (with_reducible rfl))) ?_
    try simp only [Act.put, List.setIfInBounds_toArray, List.set_cons_zero, List.set_cons_succ]
    refine wpAnyJ_take1 3 rfl (by kernel_rfl) (by kernel_rfl) rfl (by kernel_rfl) (fun _ _ _ h => h) (by rfl) hS1 (fun w' hSw => (by obtain ⟨c1, c2⟩ := hSw; go_simp; try (with_reducible rfl))) ?_
    try simp only [Act.put, List.setIfInBounds_toArray, List.set_cons_zero, List.set_cons_succ]
    refine wpAnyJ_take1 4 rfl (by kernel_rfl) (by kernel_rfl) rfl (by kernel_rfl) (fun _ _ _ h => h) (by rfl) hS1 (fun w' hSw => (by obtain ⟨c1, c2⟩ := hSw; go_simp; try (with_reducible rfl))) ?_
    try simp only [Act.put, List.setIfInBounds_toArray, List.set_cons_zero, List.set_cons_succ]
    refine wpAnyJ_take1 5 rfl (by kernel_rfl) (by kernel_rfl) rfl (by kernel_rfl) (fun _ _ _ h => h) (by rfl) hS1 (fun w' hSw => (by obtain ⟨c1, c2⟩ := hSw; go_simp; try (with_reducible rfl))) ?_
    try simp only [Act.put, List.setIfInBounds_toArray, List.set_cons_zero, List.set_cons_succ]
    refine wpAnyJ_take1 6 rfl (by kernel_rfl) (by kernel_rfl) rfl (by kernel_rfl) (fun _ _ _ h => h) (by rfl) hS1 (fun w' hSw => (by obtain ⟨c1, c2⟩ := hSw; go_simp; try (with_reducible rfl))) ?_
    try simp only [Act.put, List.setIfInBounds_toArray, List.set_cons_zero, List.set_cons_succ]
    refine wpAnyJ_take1 7 rfl (by kernel_rfl) (by kernel_rfl) rfl (by kernel_rfl) (fun _ _ _ h => h) (by rfl) hS1 (fun w' hSw => (by obtain ⟨c1, c2⟩ := hSw; go_simp; try (with_reducible rfl))) ?_
    try simp only [Act.put, List.setIfInBounds_toArray, List.set_cons_zero, List.set_cons_succ]
    refine wpAnyJ_take1 8 rfl (by kernel_rfl) (by kernel_rfl) rfl (by kernel_rfl) (fun _ _ _ h => h) (by rfl) hS1 (fun w' hSw => (by obtain ⟨c1, c2⟩ := hSw; go_simp; try (with_reducible rfl))) ?_
    try simp only [Act.put, List.setIfInBounds_toArray, List.set_cons_zero, List.set_cons_succ]
    refine wpAnyJ_ready [9, 10] (by kernel_rfl) (by simp) (NextJ.cons rfl (fun K hK => ?_) (NextJ.cons rfl (fun K hK => ?_) NextJ.nil))
    case' _ =>
      go_simp
      refine (of_at' p A l c s i sb 0 (w0 := w) hB0 H hr hH hs0 hs1 hi' (by omega) (by omega) (by omega) (by omega) (by omega) (by omega)).mono ?_
      rintro e w5 ⟨rfl, hB5⟩
      have hB1 := hB0.trans (hB5.mono hB0.size)
      go_simp
      refine hK.out _ _ (keepB hp0 hp1 hB1).2 (fun h => absurd h (by decide)) ?_
      clear hK K
      try simp only [Act.put, List.setIfInBounds_toArray, List.set_cons_zero, List.set_cons_succ]
      refine wpAnyJ_ready [10] (by kernel_rfl) (by simp) (NextJ.cons rfl (fun K hK => ?_) NextJ.nil)
      go_simp
      have hB2 := hB1.alloc hB1.size (.cells #[.int .i64 0, .int .i64 0] 84)
      have h8 := Blk.new w5 84 #[.int .i64 0, .int .i64 0]
      have k0 := ((hk0.drew).below' hB5).alloc (.cells #[.int .i64 0, .int .i64 0] 84)
      have k1 := ((hk1.drew).below' hB5).alloc (.cells #[.int .i64 0, .int .i64 0] 84)
      have hne : w.heap.size < w5.heap.size ∧ w.heap.size + 1 < w5.heap.size := ⟨by have := (hk0.drew).lt; have := hB5.size; omega, by have := (hk1.drew).lt; have := hB5.size; omega⟩
      refine hK.out _ _ (keepB hp0 hp1 hB2).2 (fun h => absurd h (by decide)) ?_
      clear hK K
      try simp only [Act.put, List.setIfInBounds_toArray, List.set_cons_zero, List.set_cons_succ]
      refine wpAnyJ_ready [11] (by kernel_rfl) (by simp) (NextJ.cons rfl (fun K hK => ?_) NextJ.nil)
      generalize w5.alloc (.cells #[.int .i64 0, .int .i64 0] 84) = w6 at *
      generalize w5.heap.size = n8 at *
    rotate_left
    case' _ =>
      go_simp
      have hB1 := hB0.alloc hB0.size (.cells #[.int .i64 0, .int .i64 0] 84)
      refine hK.out _ _ (keepB hp0 hp1 hB1).2 (fun h => absurd h (by decide)) ?_
      clear hK K
      try simp only [Act.put, List.setIfInBounds_toArray, List.set_cons_zero, List.set_cons_succ]
      refine wpAnyJ_ready [9] (by kernel_rfl) (by simp) (NextJ.cons rfl (fun K hK => ?_) NextJ.nil)
      go_simp
      refine (of_at' p A l c s i sb 0 (w0 := w) hB1 H hr hH hs0 hs1 hi' (by omega) (by omega) (by omega) (by omega) (by omega) (by omega)).mono ?_
      rintro e w6 ⟨rfl, hB5⟩
      have hB2 := hB1.trans (hB5.mono hB1.size)
      have h8 := (Blk.new W.drew 84 #[.int .i64 0, .int .i64 0]).below' hB5
      have k0 := ((hk0.drew).alloc (.cells #[.int .i64 0, .int .i64 0] 84)).below' hB5
      have k1 := ((hk1.drew).alloc (.cells #[.int .i64 0, .int .i64 0] 84)).below' hB5
      have hne : w.heap.size < W.drew.heap.size ∧ w.heap.size + 1 < W.drew.heap.size := ⟨hk0.lt, hk1.lt⟩
      go_simp
      refine hK.out _ _ (keepB hp0 hp1 hB2).2 (fun h => absurd h (by decide)) ?_
      clear hK K
      try simp only [Act.put, List.setIfInBounds_toArray, List.set_cons_zero, List.set_cons_succ]
      refine wpAnyJ_ready [11] (by kernel_rfl) (by simp) (NextJ.cons rfl (fun K hK => ?_) NextJ.nil)
      change Blk w6 W.heap.size _ _ at h8
      change w.heap.size < W.heap.size ∧ w.heap.size + 1 < W.heap.size at hne
      generalize W.heap.size = n8 at *
    rotate_left

    all_goals
      have q0 := h8.cell 0 _ rfl
      have q1 := h8.cell 1 _ rfl
      have f0 := h8.frozen 0
      have f1 := h8.frozen 1
      have hl8 := h8.lt
      go_simp
      have hB3 := (hB2.setCell (p := ⟨n8, 0, none⟩) (Nat.le_of_lt hne.1) (.int .i64 (wlo s l[i]))).setCell (p := ⟨n8, 1, none⟩) (Nat.le_of_lt hne.1) (.int .i64 (whi p s l[i]))
      have h8' := (h8.set_ 0 (.int .i64 (wlo s l[i]))).set_ 1 (.int .i64 (whi p s l[i]))
      have k0' := (k0.far (p := ⟨n8, 0, none⟩) (Nat.ne_of_lt hne.1) (.int .i64 (wlo s l[i]))).far (p := ⟨n8, 1, none⟩) (Nat.ne_of_lt hne.1) (.int .i64 (whi p s l[i]))
      have k1' := (k1.far (p := ⟨n8, 0, none⟩) (Nat.ne_of_lt hne.2) (.int .i64 (wlo s l[i]))).far (p := ⟨n8, 1, none⟩) (Nat.ne_of_lt hne.2) (.int .i64 (whi p s l[i]))
      refine hK.out _ _ (keepB hp0 hp1 hB3).2 (fun h => absurd h (by decide)) ?_
      clear hK K
      try simp only [Act.put, List.setIfInBounds_toArray, List.set_cons_zero, List.set_cons_succ]
      refine wpAnyJ_done (by kernel_rfl) ?_ _
      have h8 : Blk _ n8 84 #[.int .i64 (wlo s l[i]), .int .i64 (whi p s l[i])] := h8'
      clear q0 q1 f0 f1 hB2 k0 k1 hB1 hB0 hS1 h8'
      generalize (w6.setCell ⟨n8, 0, none⟩ (.int .i64 (wlo s l[i]))).setCell ⟨n8, 1, none⟩ (.int .i64 (whi p s l[i])) = w7 at *
      have c80 := h8.cell 0 _ rfl
      have c81 := h8.cell 1 _ rfl
      have c01 := k0'.cell 1 _ rfl
      have c02 := k0'.cell 2 _ rfl
      go_wp2_with (first
        | (go_at_call 44; refine (and_any _ _ _ _ _).mono ?_; rintro e w8 ⟨rfl, hB8⟩
           have k08 := k0'.below' hB8
           have k18 := k1'.below' hB8
           have h88 := h8.below' hB8
           have d1 := k08.cell 1 _ rfl
           have d2 := k08.cell 2 _ rfl
           have dl := k08.lt
           have hx8 := hne.2
           have ht := Blk.new w8 84 #[.int .i64 (max (wlo s l[i]) lo), .int .i64 (min (whi p s l[i]) hi)]
           have kz := k08.alloc (.cells #[.int .i64 (max (wlo s l[i]) lo), .int .i64 (min (whi p s l[i]) hi)] 84)
           have ky := k18.alloc (.cells #[.int .i64 (max (wlo s l[i]) lo), .int .i64 (min (whi p s l[i]) hi)] 84)
           have hz := h88.alloc (.cells #[.int .i64 (max (wlo s l[i]) lo), .int .i64 (min (whi p s l[i]) hi)] 84)
           have hBz := (hB3.trans (hB8.mono hB3.size)).alloc (Nat.le_trans hB3.size hB8.size) (.cells #[.int .i64 (max (wlo s l[i]) lo), .int .i64 (min (whi p s l[i]) hi)] 84)
           have hn8 : n8 < w8.heap.size := h88.lt)
        | (go_at_call 45; refine (open_any _ _ _).mono ?_; rintro e w9 ⟨rfl, hB9⟩
           replace hBz := hBz.trans (hB9.mono hBz.size)
           replace kz := kz.below' hB9
           replace ky := ky.below' hB9
           replace hz := hz.below' hB9
           replace ht := ht.below' hB9
           have z0 := kz.cell 0 _ rfl
           have z1 := ht.cell 0 _ rfl
           have z2 := ht.cell 1 _ rfl
           have z3 := hz.cell 0 _ rfl
           have z4 := hz.cell 1 _ rfl
           have z5 := hz.frozen 0
           have z6 := hz.frozen 1
           have z7 := ky.frozen 0
           have z8 := ky.frozen 1
           have z9 := ky.frozen 2
           have y0 := ky.cell 0 _ rfl
           have y1 := ky.cell 1 _ rfl
           have y2 := ky.cell 2 _ rfl
           have yl := ky.lt
           have zl := kz.lt))
      have hz5 := (hz.set_ 0 (.int .i64 (max (wlo s l[i]) lo))).set_ 1 (.int .i64 (min (whi p s l[i]) hi))
      have kz5 := (kz.far (p := ⟨n8, 0, none⟩) (Nat.ne_of_lt hne.1) (.int .i64 (max (wlo s l[i]) lo))).far (p := ⟨n8, 1, none⟩) (Nat.ne_of_lt hne.1) (.int .i64 (min (whi p s l[i]) hi))
      have ky5 := (ky.far (p := ⟨n8, 0, none⟩) (Nat.ne_of_lt hne.2) (.int .i64 (max (wlo s l[i]) lo))).far (p := ⟨n8, 1, none⟩) (Nat.ne_of_lt hne.2) (.int .i64 (min (whi p s l[i]) hi))
      have hB5 := (hBz.setCell (p := ⟨n8, 0, none⟩) (Nat.le_of_lt hne.1) (.int .i64 (max (wlo s l[i]) lo))).setCell (p := ⟨n8, 1, none⟩) (Nat.le_of_lt hne.1) (.int .i64 (min (whi p s l[i]) hi))
      generalize (w9.setCell ⟨n8, 0, none⟩ (.int .i64 (max (wlo s l[i]) lo))).setCell ⟨n8, 1, none⟩ (.int .i64 (min (whi p s l[i]) hi)) = w10 at *
      have hz6 : Blk w10 n8 84 #[.int .i64 (max (wlo s l[i]) lo), .int .i64 (min (whi p s l[i]) hi)] := hz5
      clear z0 z1 z2 z3 z4 z5 z6 z7 z8 z9 y0 y1 y2 yl zl hz5
      have z0 := kz5.cell 0 _ rfl
      have z3 := hz6.cell 0 _ rfl
      have z4 := hz6.cell 1 _ rfl
      have z7 := ky5.frozen 0
      have z8 := ky5.frozen 1
      have z9 := ky5.frozen 2
      have y0 := ky5.cell 0 _ rfl
      have y1 := ky5.cell 1 _ rfl
      have y2 := ky5.cell 2 _ rfl
      have yl := ky5.lt
      have zl := kz5.lt
      go_region
      all_goals
        have kf := (((ky5.set_ 0 (.int .i64 (bits BinOp.or IntKind.i64 d (wrap64 (2 ^ i))))).set_ 1 (.int .i64 (max (wlo s l[i]) lo))).set_ 2 (.int .i64 (min (whi p s l[i]) hi))).drew
        have e0 := kf.cell 0 _ rfl
        have e1 := kf.cell 1 _ rfl
        have e2 := kf.cell 2 _ rfl
        have hBf := (((hB5.setCell (p := ⟨w.heap.size + 1, 0, none⟩) (Nat.le_succ _) (.int .i64 (bits BinOp.or IntKind.i64 d (wrap64 (2 ^ i))))).setCell (p := ⟨w.heap.size + 1, 1, none⟩) (Nat.le_succ _) (.int .i64 (max (wlo s l[i]) lo))).setCell (p := ⟨w.heap.size + 1, 2, none⟩) (Nat.le_succ _) (.int .i64 (min (whi p s l[i]) hi))).drew
        go_wp2_with fail
        refine bodyPost_ret (v := _) (by simp [results, Tryd.results50, go_sem, e0, e1, e2]; rfl) rfl (Ret.val ?_ hBf)
        rw [HJ.out, bor_shl d i (by omega) (by omega)]
        rfl
  · have hd1 : decide (lo ≤ hi) = true := by simpa using h1
    have hd2 : decide (max (wlo s l[i]) lo ≤ min (whi p s l[i]) hi) = false := by simpa using h2
    have HJ := Lib.hid (show joinB p s l[i] lo hi = false by simp [joinB, hd1, hd2])
    clear h1 h2
    have l0 := lt_of_cell hp0
    have l1 := lt_of_cell hs0
    go_enter Tryd.func50, Tryd.ntmps50
    go_wp2
    have hk0 := (Blk.new w 95 #[.int .i64 d, .int .i64 lo, .int .i64 hi]).alloc (.cells #[.int .i64 0, .int .i64 0, .int .i64 0] 95)
    have hk1 := Blk.new (w.alloc (.cells #[.int .i64 d, .int .i64 lo, .int .i64 hi] 95)) 95 #[.int .i64 0, .int .i64 0, .int .i64 0]
    rw [World.size_alloc] at hk1
    have hBW : Below w.heap.size w ((w.alloc (.cells #[.int .i64 d, .int .i64 lo, .int .i64 hi] 95)).alloc (.cells #[.int .i64 0, .int .i64 0, .int .i64 0] 95)) := by (repeat' first | exact Below.refl _ _ | apply Below.drew | (refine Below.setCells ?_ _ _ ?_) | (refine Below.setCell ?_ ?_ _) | (refine Below.alloc ?_ ?_ _) | (simp; done) | (simp; omega))
    generalize (w.alloc (.cells #[.int .i64 d, .int .i64 lo, .int .i64 hi] 95)).alloc (.cells #[.int .i64 0, .int .i64 0, .int .i64 0] 95) = W at *
    refine wp_region_J (fun w' => w'.cell? ⟨pb, 0, none⟩ = some (.pointer (some ⟨sb, 0, none⟩)) ∧ w'.cell? ⟨pb, 1, none⟩ = some (.int .i64 s)) (fun _ => True) (fun _ => false) (by kernel_rfl) ?_
    have hB0 : Below w.heap.size w W.drew := hBW.drew
    have hS1 := keepB hp0 hp1 hB0
    replace hS1 := hS1.2
    refine wpAnyJ_take1 0 rfl (by kernel_rfl) (by kernel_rfl) rfl (by kernel_rfl) (fun _ _ _ h => h) (by rfl) hS1 (fun w' hSw => (by obtain ⟨c1, c2⟩ := hSw; go_simp; try (with_reducible rfl))) ?_
    try simp only [Act.put, List.setIfInBounds_toArray, List.set_cons_zero, List.set_cons_succ]
    refine wpAnyJ_take1 1 rfl (by kernel_rfl) (by kernel_rfl) rfl (by kernel_rfl) (fun _ _ _ h => h) (by rfl) hS1 (fun w' hSw => (by obtain ⟨c1, c2⟩ := hSw; go_simp; try (with_reducible rfl))) ?_
    try simp only [Act.put, List.setIfInBounds_toArray, List.set_cons_zero, List.set_cons_succ]
    refine wpAnyJ_take1 2 rfl (by kernel_rfl) (by kernel_rfl) rfl (by kernel_rfl) (fun _ _ _ h => h) (by rfl) hS1 (fun w' hSw => (by obtain ⟨c1, c2⟩ := hSw; go_simp; try (with_reducible rfl))) ?_
    try simp only [Act.put, List.setIfInBounds_toArray, List.set_cons_zero, List.set_cons_succ]
    refine wpAnyJ_take1 3 rfl (by kernel_rfl) (by kernel_rfl) rfl (by kernel_rfl) (fun _ _ _ h => h) (by rfl) hS1 (fun w' hSw => (by obtain ⟨c1, c2⟩ := hSw; go_simp; try (with_reducible rfl))) ?_
    try simp only [Act.put, List.setIfInBounds_toArray, List.set_cons_zero, List.set_cons_succ]
    refine wpAnyJ_take1 4 rfl (by kernel_rfl) (by kernel_rfl) rfl (by kernel_rfl) (fun _ _ _ h => h) (by rfl) hS1 (fun w' hSw => (by obtain ⟨c1, c2⟩ := hSw; go_simp; try (with_reducible rfl))) ?_
    try simp only [Act.put, List.setIfInBounds_toArray, List.set_cons_zero, List.set_cons_succ]
    refine wpAnyJ_take1 5 rfl (by kernel_rfl) (by kernel_rfl) rfl (by kernel_rfl) (fun _ _ _ h => h) (by rfl) hS1 (fun w' hSw => (by obtain ⟨c1, c2⟩ := hSw; go_simp; try (with_reducible rfl))) ?_
    try simp only [Act.put, List.setIfInBounds_toArray, List.set_cons_zero, List.set_cons_succ]
    refine wpAnyJ_take1 6 rfl (by kernel_rfl) (by kernel_rfl) rfl (by kernel_rfl) (fun _ _ _ h => h) (by rfl) hS1 (fun w' hSw => (by obtain ⟨c1, c2⟩ := hSw; go_simp; try (with_reducible rfl))) ?_
    try simp only [Act.put, List.setIfInBounds_toArray, List.set_cons_zero, List.set_cons_succ]
    refine wpAnyJ_take1 7 rfl (by kernel_rfl) (by kernel_rfl) rfl (by kernel_rfl) (fun _ _ _ h => h) (by rfl) hS1 (fun w' hSw => (by obtain ⟨c1, c2⟩ := hSw; go_simp; try (with_reducible rfl))) ?_
    try simp only [Act.put, List.setIfInBounds_toArray, List.set_cons_zero, List.set_cons_succ]
    refine wpAnyJ_take1 8 rfl (by kernel_rfl) (by kernel_rfl) rfl (by kernel_rfl) (fun _ _ _ h => h) (by rfl) hS1 (fun w' hSw => (by obtain ⟨c1, c2⟩ := hSw; go_simp; try (with_reducible rfl))) ?_
    try simp only [Act.put, List.setIfInBounds_toArray, List.set_cons_zero, List.set_cons_succ]
    refine wpAnyJ_ready [9, 10] (by kernel_rfl) (by simp) (NextJ.cons rfl (fun K hK => ?_) (NextJ.cons rfl (fun K hK => ?_) NextJ.nil))
    case' _ =>
      go_simp
      refine (of_at' p A l c s i sb 0 (w0 := w) hB0 H hr hH hs0 hs1 hi' (by omega) (by omega) (by omega) (by omega) (by omega) (by omega)).mono ?_
      rintro e w5 ⟨rfl, hB5⟩
      have hB1 := hB0.trans (hB5.mono hB0.size)
      go_simp
      refine hK.out _ _ (keepB hp0 hp1 hB1).2 (fun h => absurd h (by decide)) ?_
      clear hK K
      try simp only [Act.put, List.setIfInBounds_toArray, List.set_cons_zero, List.set_cons_succ]
      refine wpAnyJ_ready [10] (by kernel_rfl) (by simp) (NextJ.cons rfl (fun K hK => ?_) NextJ.nil)
      go_simp
      have hB2 := hB1.alloc hB1.size (.cells #[.int .i64 0, .int .i64 0] 84)
      have h8 := Blk.new w5 84 #[.int .i64 0, .int .i64 0]
      have k0 := ((hk0.drew).below' hB5).alloc (.cells #[.int .i64 0, .int .i64 0] 84)
      have k1 := ((hk1.drew).below' hB5).alloc (.cells #[.int .i64 0, .int .i64 0] 84)
      have hne : w.heap.size < w5.heap.size ∧ w.heap.size + 1 < w5.heap.size := ⟨by have := (hk0.drew).lt; have := hB5.size; omega, by have := (hk1.drew).lt; have := hB5.size; omega⟩
      refine hK.out _ _ (keepB hp0 hp1 hB2).2 (fun h => absurd h (by decide)) ?_
      clear hK K
      try simp only [Act.put, List.setIfInBounds_toArray, List.set_cons_zero, List.set_cons_succ]
      refine wpAnyJ_ready [11] (by kernel_rfl) (by simp) (NextJ.cons rfl (fun K hK => ?_) NextJ.nil)
      generalize w5.alloc (.cells #[.int .i64 0, .int .i64 0] 84) = w6 at *
      generalize w5.heap.size = n8 at *
    rotate_left
    case' _ =>
      go_simp
      have hB1 := hB0.alloc hB0.size (.cells #[.int .i64 0, .int .i64 0] 84)
      refine hK.out _ _ (keepB hp0 hp1 hB1).2 (fun h => absurd h (by decide)) ?_
      clear hK K
      try simp only [Act.put, List.setIfInBounds_toArray, List.set_cons_zero, List.set_cons_succ]
      refine wpAnyJ_ready [9] (by kernel_rfl) (by simp) (NextJ.cons rfl (fun K hK => ?_) NextJ.nil)
      go_simp
      refine (of_at' p A l c s i sb 0 (w0 := w) hB1 H hr hH hs0 hs1 hi' (by omega) (by omega) (by omega) (by omega) (by omega) (by omega)).mono ?_
      rintro e w6 ⟨rfl, hB5⟩
      have hB2 := hB1.trans (hB5.mono hB1.size)
      have h8 := (Blk.new W.drew 84 #[.int .i64 0, .int .i64 0]).below' hB5
      have k0 := ((hk0.drew).alloc (.cells #[.int .i64 0, .int .i64 0] 84)).below' hB5
      have k1 := ((hk1.drew).alloc (.cells #[.int .i64 0, .int .i64 0] 84)).below' hB5
      have hne : w.heap.size < W.drew.heap.size ∧ w.heap.size + 1 < W.drew.heap.size := ⟨hk0.lt, hk1.lt⟩
      go_simp
      refine hK.out _ _ (keepB hp0 hp1 hB2).2 (fun h => absurd h (by decide)) ?_
      clear hK K
      try simp only [Act.put, List.setIfInBounds_toArray, List.set_cons_zero, List.set_cons_succ]
      refine wpAnyJ_ready [11] (by kernel_rfl) (by simp) (NextJ.cons rfl (fun K hK => ?_) NextJ.nil)
      change Blk w6 W.heap.size _ _ at h8
      change w.heap.size < W.heap.size ∧ w.heap.size + 1 < W.heap.size at hne
      generalize W.heap.size = n8 at *
    rotate_left

    all_goals
      have q0 := h8.cell 0 _ rfl
      have q1 := h8.cell 1 _ rfl
      have f0 := h8.frozen 0
      have f1 := h8.frozen 1
      have hl8 := h8.lt
      go_simp
      have hB3 := (hB2.setCell (p := ⟨n8, 0, none⟩) (Nat.le_of_lt hne.1) (.int .i64 (wlo s l[i]))).setCell (p := ⟨n8, 1, none⟩) (Nat.le_of_lt hne.1) (.int .i64 (whi p s l[i]))
      have h8' := (h8.set_ 0 (.int .i64 (wlo s l[i]))).set_ 1 (.int .i64 (whi p s l[i]))
      have k0' := (k0.far (p := ⟨n8, 0, none⟩) (Nat.ne_of_lt hne.1) (.int .i64 (wlo s l[i]))).far (p := ⟨n8, 1, none⟩) (Nat.ne_of_lt hne.1) (.int .i64 (whi p s l[i]))
      have k1' := (k1.far (p := ⟨n8, 0, none⟩) (Nat.ne_of_lt hne.2) (.int .i64 (wlo s l[i]))).far (p := ⟨n8, 1, none⟩) (Nat.ne_of_lt hne.2) (.int .i64 (whi p s l[i]))
      refine hK.out _ _ (keepB hp0 hp1 hB3).2 (fun h => absurd h (by decide)) ?_
      clear hK K
      try simp only [Act.put, List.setIfInBounds_toArray, List.set_cons_zero, List.set_cons_succ]
      refine wpAnyJ_done (by kernel_rfl) ?_ _
      have h8 : Blk _ n8 84 #[.int .i64 (wlo s l[i]), .int .i64 (whi p s l[i])] := h8'
      clear q0 q1 f0 f1 hB2 k0 k1 hB1 hB0 hS1 h8'
      generalize (w6.setCell ⟨n8, 0, none⟩ (.int .i64 (wlo s l[i]))).setCell ⟨n8, 1, none⟩ (.int .i64 (whi p s l[i])) = w7 at *
      have c80 := h8.cell 0 _ rfl
      have c81 := h8.cell 1 _ rfl
      have c01 := k0'.cell 1 _ rfl
      have c02 := k0'.cell 2 _ rfl
      go_wp2_with (first
        | (go_at_call 44; refine (and_any _ _ _ _ _).mono ?_; rintro e w8 ⟨rfl, hB8⟩
           have k08 := k0'.below' hB8
           have k18 := k1'.below' hB8
           have h88 := h8.below' hB8
           have d1 := k08.cell 1 _ rfl
           have d2 := k08.cell 2 _ rfl
           have dl := k08.lt
           have hx8 := hne.2
           have ht := Blk.new w8 84 #[.int .i64 (max (wlo s l[i]) lo), .int .i64 (min (whi p s l[i]) hi)]
           have kz := k08.alloc (.cells #[.int .i64 (max (wlo s l[i]) lo), .int .i64 (min (whi p s l[i]) hi)] 84)
           have ky := k18.alloc (.cells #[.int .i64 (max (wlo s l[i]) lo), .int .i64 (min (whi p s l[i]) hi)] 84)
           have hz := h88.alloc (.cells #[.int .i64 (max (wlo s l[i]) lo), .int .i64 (min (whi p s l[i]) hi)] 84)
           have hBz := (hB3.trans (hB8.mono hB3.size)).alloc (Nat.le_trans hB3.size hB8.size) (.cells #[.int .i64 (max (wlo s l[i]) lo), .int .i64 (min (whi p s l[i]) hi)] 84)
           have hn8 : n8 < w8.heap.size := h88.lt)
        | (go_at_call 45; refine (open_any _ _ _).mono ?_; rintro e w9 ⟨rfl, hB9⟩
           replace hBz := hBz.trans (hB9.mono hBz.size)
           replace kz := kz.below' hB9
           replace ky := ky.below' hB9
           replace hz := hz.below' hB9
           replace ht := ht.below' hB9
           have z0 := kz.cell 0 _ rfl
           have z1 := ht.cell 0 _ rfl
           have z2 := ht.cell 1 _ rfl
           have z3 := hz.cell 0 _ rfl
           have z4 := hz.cell 1 _ rfl
           have z5 := hz.frozen 0
           have z6 := hz.frozen 1
           have z7 := ky.frozen 0
           have z8 := ky.frozen 1
           have z9 := ky.frozen 2
           have y0 := ky.cell 0 _ rfl
           have y1 := ky.cell 1 _ rfl
           have y2 := ky.cell 2 _ rfl
           have yl := ky.lt
           have zl := kz.lt))
      go_region
      all_goals
        have kf := (((ky.set_ 0 (.int .i64 (bits BinOp.or IntKind.i64 d (wrap64 (2 ^ i))))).set_ 1 (.int .i64 (wlo s l[i]))).set_ 2 (.int .i64 (whi p s l[i]))).drew
        have e0 := kf.cell 0 _ rfl
        have e1 := kf.cell 1 _ rfl
        have e2 := kf.cell 2 _ rfl
        have hBf := (((hBz.setCell (p := ⟨w.heap.size + 1, 0, none⟩) (Nat.le_succ _) (.int .i64 (bits BinOp.or IntKind.i64 d (wrap64 (2 ^ i))))).setCell (p := ⟨w.heap.size + 1, 1, none⟩) (Nat.le_succ _) (.int .i64 (wlo s l[i]))).setCell (p := ⟨w.heap.size + 1, 2, none⟩) (Nat.le_succ _) (.int .i64 (whi p s l[i]))).drew
        go_wp2_with fail
        refine bodyPost_ret (v := _) (by simp [results, Tryd.results50, go_sem, e0, e1, e2]; rfl) rfl (Ret.val ?_ hBf)
        rw [HJ.out, bor_shl d i (by omega) (by omega)]
        rfl
  · have hd1 : decide (lo ≤ hi) = false := by simpa using h1
    have HJ := Lib.hid (show joinB p s l[i] lo hi = false by simp [joinB, hd1])
    clear h1
    have l0 := lt_of_cell hp0
    have l1 := lt_of_cell hs0
    go_enter Tryd.func50, Tryd.ntmps50
    go_wp2
    have hk0 := (Blk.new w 95 #[.int .i64 d, .int .i64 lo, .int .i64 hi]).alloc (.cells #[.int .i64 0, .int .i64 0, .int .i64 0] 95)
    have hk1 := Blk.new (w.alloc (.cells #[.int .i64 d, .int .i64 lo, .int .i64 hi] 95)) 95 #[.int .i64 0, .int .i64 0, .int .i64 0]
    rw [World.size_alloc] at hk1
    have hBW : Below w.heap.size w ((w.alloc (.cells #[.int .i64 d, .int .i64 lo, .int .i64 hi] 95)).alloc (.cells #[.int .i64 0, .int .i64 0, .int .i64 0] 95)) := by (repeat' first | exact Below.refl _ _ | apply Below.drew | (refine Below.setCells ?_ _ _ ?_) | (refine Below.setCell ?_ ?_ _) | (refine Below.alloc ?_ ?_ _) | (simp; done) | (simp; omega))
    generalize (w.alloc (.cells #[.int .i64 d, .int .i64 lo, .int .i64 hi] 95)).alloc (.cells #[.int .i64 0, .int .i64 0, .int .i64 0] 95) = W at *
    refine wp_region_J (fun w' => w'.cell? ⟨pb, 0, none⟩ = some (.pointer (some ⟨sb, 0, none⟩)) ∧ w'.cell? ⟨pb, 1, none⟩ = some (.int .i64 s)) (fun _ => True) (fun _ => false) (by kernel_rfl) ?_
    have hB0 : Below w.heap.size w W.drew := hBW.drew
    have hS1 := keepB hp0 hp1 hB0
    replace hS1 := hS1.2
    refine wpAnyJ_take1 0 rfl (by kernel_rfl) (by kernel_rfl) rfl (by kernel_rfl) (fun _ _ _ h => h) (by rfl) hS1 (fun w' hSw => (by obtain ⟨c1, c2⟩ := hSw; go_simp; try (with_reducible rfl))) ?_
    try simp only [Act.put, List.setIfInBounds_toArray, List.set_cons_zero, List.set_cons_succ]
    refine wpAnyJ_take1 1 rfl (by kernel_rfl) (by kernel_rfl) rfl (by kernel_rfl) (fun _ _ _ h => h) (by rfl) hS1 (fun w' hSw => (by obtain ⟨c1, c2⟩ := hSw; go_simp; try (with_reducible rfl))) ?_
    try simp only [Act.put, List.setIfInBounds_toArray, List.set_cons_zero, List.set_cons_succ]
    refine wpAnyJ_take1 2 rfl (by kernel_rfl) (by kernel_rfl) rfl (by kernel_rfl) (fun _ _ _ h => h) (by rfl) hS1 (fun w' hSw => (by obtain ⟨c1, c2⟩ := hSw; go_simp; try (with_reducible rfl))) ?_
    try simp only [Act.put, List.setIfInBounds_toArray, List.set_cons_zero, List.set_cons_succ]
    refine wpAnyJ_take1 3 rfl (by kernel_rfl) (by kernel_rfl) rfl (by kernel_rfl) (fun _ _ _ h => h) (by rfl) hS1 (fun w' hSw => (by obtain ⟨c1, c2⟩ := hSw; go_simp; try (with_reducible rfl))) ?_
    try simp only [Act.put, List.setIfInBounds_toArray, List.set_cons_zero, List.set_cons_succ]
    refine wpAnyJ_take1 4 rfl (by kernel_rfl) (by kernel_rfl) rfl (by kernel_rfl) (fun _ _ _ h => h) (by rfl) hS1 (fun w' hSw => (by obtain ⟨c1, c2⟩ := hSw; go_simp; try (with_reducible rfl))) ?_
    try simp only [Act.put, List.setIfInBounds_toArray, List.set_cons_zero, List.set_cons_succ]
    refine wpAnyJ_take1 5 rfl (by kernel_rfl) (by kernel_rfl) rfl (by kernel_rfl) (fun _ _ _ h => h) (by rfl) hS1 (fun w' hSw => (by obtain ⟨c1, c2⟩ := hSw; go_simp; try (with_reducible rfl))) ?_
    try simp only [Act.put, List.setIfInBounds_toArray, List.set_cons_zero, List.set_cons_succ]
    refine wpAnyJ_take1 6 rfl (by kernel_rfl) (by kernel_rfl) rfl (by kernel_rfl) (fun _ _ _ h => h) (by rfl) hS1 (fun w' hSw => (by obtain ⟨c1, c2⟩ := hSw; go_simp; try (with_reducible rfl))) ?_
    try simp only [Act.put, List.setIfInBounds_toArray, List.set_cons_zero, List.set_cons_succ]
    refine wpAnyJ_take1 7 rfl (by kernel_rfl) (by kernel_rfl) rfl (by kernel_rfl) (fun _ _ _ h => h) (by rfl) hS1 (fun w' hSw => (by obtain ⟨c1, c2⟩ := hSw; go_simp; try (with_reducible rfl))) ?_
    try simp only [Act.put, List.setIfInBounds_toArray, List.set_cons_zero, List.set_cons_succ]
    refine wpAnyJ_take1 8 rfl (by kernel_rfl) (by kernel_rfl) rfl (by kernel_rfl) (fun _ _ _ h => h) (by rfl) hS1 (fun w' hSw => (by obtain ⟨c1, c2⟩ := hSw; go_simp; try (with_reducible rfl))) ?_
    try simp only [Act.put, List.setIfInBounds_toArray, List.set_cons_zero, List.set_cons_succ]
    refine wpAnyJ_ready [9, 10] (by kernel_rfl) (by simp) (NextJ.cons rfl (fun K hK => ?_) (NextJ.cons rfl (fun K hK => ?_) NextJ.nil))
    case' _ =>
      go_simp
      refine (of_at' p A l c s i sb 0 (w0 := w) hB0 H hr hH hs0 hs1 hi' (by omega) (by omega) (by omega) (by omega) (by omega) (by omega)).mono ?_
      rintro e w5 ⟨rfl, hB5⟩
      have hB1 := hB0.trans (hB5.mono hB0.size)
      go_simp
      refine hK.out _ _ (keepB hp0 hp1 hB1).2 (fun h => absurd h (by decide)) ?_
      clear hK K
      try simp only [Act.put, List.setIfInBounds_toArray, List.set_cons_zero, List.set_cons_succ]
      refine wpAnyJ_ready [10] (by kernel_rfl) (by simp) (NextJ.cons rfl (fun K hK => ?_) NextJ.nil)
      go_simp
      have hB2 := hB1.alloc hB1.size (.cells #[.int .i64 0, .int .i64 0] 84)
      have h8 := Blk.new w5 84 #[.int .i64 0, .int .i64 0]
      have k0 := ((hk0.drew).below' hB5).alloc (.cells #[.int .i64 0, .int .i64 0] 84)
      have k1 := ((hk1.drew).below' hB5).alloc (.cells #[.int .i64 0, .int .i64 0] 84)
      have hne : w.heap.size < w5.heap.size ∧ w.heap.size + 1 < w5.heap.size := ⟨by have := (hk0.drew).lt; have := hB5.size; omega, by have := (hk1.drew).lt; have := hB5.size; omega⟩
      refine hK.out _ _ (keepB hp0 hp1 hB2).2 (fun h => absurd h (by decide)) ?_
      clear hK K
      try simp only [Act.put, List.setIfInBounds_toArray, List.set_cons_zero, List.set_cons_succ]
      refine wpAnyJ_ready [11] (by kernel_rfl) (by simp) (NextJ.cons rfl (fun K hK => ?_) NextJ.nil)
      generalize w5.alloc (.cells #[.int .i64 0, .int .i64 0] 84) = w6 at *
      generalize w5.heap.size = n8 at *
    rotate_left
    case' _ =>
      go_simp
      have hB1 := hB0.alloc hB0.size (.cells #[.int .i64 0, .int .i64 0] 84)
      refine hK.out _ _ (keepB hp0 hp1 hB1).2 (fun h => absurd h (by decide)) ?_
      clear hK K
      try simp only [Act.put, List.setIfInBounds_toArray, List.set_cons_zero, List.set_cons_succ]
      refine wpAnyJ_ready [9] (by kernel_rfl) (by simp) (NextJ.cons rfl (fun K hK => ?_) NextJ.nil)
      go_simp
      refine (of_at' p A l c s i sb 0 (w0 := w) hB1 H hr hH hs0 hs1 hi' (by omega) (by omega) (by omega) (by omega) (by omega) (by omega)).mono ?_
      rintro e w6 ⟨rfl, hB5⟩
      have hB2 := hB1.trans (hB5.mono hB1.size)
      have h8 := (Blk.new W.drew 84 #[.int .i64 0, .int .i64 0]).below' hB5
      have k0 := ((hk0.drew).alloc (.cells #[.int .i64 0, .int .i64 0] 84)).below' hB5
      have k1 := ((hk1.drew).alloc (.cells #[.int .i64 0, .int .i64 0] 84)).below' hB5
      have hne : w.heap.size < W.drew.heap.size ∧ w.heap.size + 1 < W.drew.heap.size := ⟨hk0.lt, hk1.lt⟩
      go_simp
      refine hK.out _ _ (keepB hp0 hp1 hB2).2 (fun h => absurd h (by decide)) ?_
      clear hK K
      try simp only [Act.put, List.setIfInBounds_toArray, List.set_cons_zero, List.set_cons_succ]
      refine wpAnyJ_ready [11] (by kernel_rfl) (by simp) (NextJ.cons rfl (fun K hK => ?_) NextJ.nil)
      change Blk w6 W.heap.size _ _ at h8
      change w.heap.size < W.heap.size ∧ w.heap.size + 1 < W.heap.size at hne
      generalize W.heap.size = n8 at *
    rotate_left

    all_goals
      have q0 := h8.cell 0 _ rfl
      have q1 := h8.cell 1 _ rfl
      have f0 := h8.frozen 0
      have f1 := h8.frozen 1
      have hl8 := h8.lt
      go_simp
      have hB3 := (hB2.setCell (p := ⟨n8, 0, none⟩) (Nat.le_of_lt hne.1) (.int .i64 (wlo s l[i]))).setCell (p := ⟨n8, 1, none⟩) (Nat.le_of_lt hne.1) (.int .i64 (whi p s l[i]))
      have h8' := (h8.set_ 0 (.int .i64 (wlo s l[i]))).set_ 1 (.int .i64 (whi p s l[i]))
      have k0' := (k0.far (p := ⟨n8, 0, none⟩) (Nat.ne_of_lt hne.1) (.int .i64 (wlo s l[i]))).far (p := ⟨n8, 1, none⟩) (Nat.ne_of_lt hne.1) (.int .i64 (whi p s l[i]))
      have k1' := (k1.far (p := ⟨n8, 0, none⟩) (Nat.ne_of_lt hne.2) (.int .i64 (wlo s l[i]))).far (p := ⟨n8, 1, none⟩) (Nat.ne_of_lt hne.2) (.int .i64 (whi p s l[i]))
      refine hK.out _ _ (keepB hp0 hp1 hB3).2 (fun h => absurd h (by decide)) ?_
      clear hK K
      try simp only [Act.put, List.setIfInBounds_toArray, List.set_cons_zero, List.set_cons_succ]
      refine wpAnyJ_done (by kernel_rfl) ?_ _
      have h8 : Blk _ n8 84 #[.int .i64 (wlo s l[i]), .int .i64 (whi p s l[i])] := h8'
      clear q0 q1 f0 f1 hB2 k0 k1 hB1 hB0 hS1 h8'
      generalize (w6.setCell ⟨n8, 0, none⟩ (.int .i64 (wlo s l[i]))).setCell ⟨n8, 1, none⟩ (.int .i64 (whi p s l[i])) = w7 at *
      have c80 := h8.cell 0 _ rfl
      have c81 := h8.cell 1 _ rfl
      have c01 := k0'.cell 1 _ rfl
      have c02 := k0'.cell 2 _ rfl
      go_wp2_with (first
        | (go_at_call 44; refine (and_any _ _ _ _ _).mono ?_; rintro e w8 ⟨rfl, hB8⟩
           have k08 := k0'.below' hB8
           have k18 := k1'.below' hB8
           have h88 := h8.below' hB8
           have d1 := k08.cell 1 _ rfl
           have d2 := k08.cell 2 _ rfl
           have dl := k08.lt
           have hx8 := hne.2
           have ht := Blk.new w8 84 #[.int .i64 (max (wlo s l[i]) lo), .int .i64 (min (whi p s l[i]) hi)]
           have kz := k08.alloc (.cells #[.int .i64 (max (wlo s l[i]) lo), .int .i64 (min (whi p s l[i]) hi)] 84)
           have ky := k18.alloc (.cells #[.int .i64 (max (wlo s l[i]) lo), .int .i64 (min (whi p s l[i]) hi)] 84)
           have hz := h88.alloc (.cells #[.int .i64 (max (wlo s l[i]) lo), .int .i64 (min (whi p s l[i]) hi)] 84)
           have hBz := (hB3.trans (hB8.mono hB3.size)).alloc (Nat.le_trans hB3.size hB8.size) (.cells #[.int .i64 (max (wlo s l[i]) lo), .int .i64 (min (whi p s l[i]) hi)] 84)
           have hn8 : n8 < w8.heap.size := h88.lt)
        | (go_at_call 45; refine (open_any _ _ _).mono ?_; rintro e w9 ⟨rfl, hB9⟩
           replace hBz := hBz.trans (hB9.mono hBz.size)
           replace kz := kz.below' hB9
           replace ky := ky.below' hB9
           replace hz := hz.below' hB9
           replace ht := ht.below' hB9
           have z0 := kz.cell 0 _ rfl
           have z1 := ht.cell 0 _ rfl
           have z2 := ht.cell 1 _ rfl
           have z3 := hz.cell 0 _ rfl
           have z4 := hz.cell 1 _ rfl
           have z5 := hz.frozen 0
           have z6 := hz.frozen 1
           have z7 := ky.frozen 0
           have z8 := ky.frozen 1
           have z9 := ky.frozen 2
           have y0 := ky.cell 0 _ rfl
           have y1 := ky.cell 1 _ rfl
           have y2 := ky.cell 2 _ rfl
           have yl := ky.lt
           have zl := kz.lt))
      go_region
      all_goals
        have kf := (((ky.set_ 0 (.int .i64 (bits BinOp.or IntKind.i64 d (wrap64 (2 ^ i))))).set_ 1 (.int .i64 (wlo s l[i]))).set_ 2 (.int .i64 (whi p s l[i]))).drew
        have e0 := kf.cell 0 _ rfl
        have e1 := kf.cell 1 _ rfl
        have e2 := kf.cell 2 _ rfl
        have hBf := (((hBz.setCell (p := ⟨w.heap.size + 1, 0, none⟩) (Nat.le_succ _) (.int .i64 (bits BinOp.or IntKind.i64 d (wrap64 (2 ^ i))))).setCell (p := ⟨w.heap.size + 1, 1, none⟩) (Nat.le_succ _) (.int .i64 (wlo s l[i]))).setCell (p := ⟨w.heap.size + 1, 2, none⟩) (Nat.le_succ _) (.int .i64 (whi p s l[i]))).drew
        go_wp2_with fail
        refine bodyPost_ret (v := _) (by simp [results, Tryd.results50, go_sem, e0, e1, e2]; rfl) rfl (Ret.val ?_ hBf)
        rw [HJ.out, bor_shl d i (by omega) (by omega)]
        rfl
end Go.Proofs.YtogkgoabonbkkaaDoor
