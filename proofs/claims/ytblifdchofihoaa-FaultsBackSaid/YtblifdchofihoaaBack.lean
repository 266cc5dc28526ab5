/- torchonlaw25: back. -/
import Derived.Test.YtblifdchofihoaaBackM
import Derived.Test.YtblifdchofihoaaLawPut
import Derived.Test.YtblifdchofihoaaRRed3
set_option linter.unusedSimpArgs false
set_option linter.unusedVariables false
namespace Go.Proofs.Ytblifdchofihoaa
open Go Go.RowKit Tor

theorem flt_ret2 {fn : Func} {p u : Tmp} (h : fn.results = #[.cell p 24, .tmp u]) {R : Ending → World → Prop} {a : Act} {w : World} {g : Nat} {x y z v : Value} (hp : a.tmps.getD p undef = .pointer (some ⟨g, 0, none⟩))
    (hb : Blk w g 24 #[x, y, z, v]) (hd : a.defers = []) (hR : R (.returned (.tuple #[.agg #[x, y, z, v], a.tmps.getD u undef])) w) : bodyPost Try.prog fn R .ret a w := by
  refine bodyPost_ret (v := .tuple #[.agg #[x, y, z, v], a.tmps.getD u undef]) ?_ hd hR
  have c0 := hb.cell 0 x rfl
  have c1 := hb.cell 1 y rfl
  have c2 := hb.cell 2 z rfl
  have c3 := hb.cell 3 v rfl
  have hp' : a.tmps[p]?.getD undef = .pointer (some ⟨g, 0, none⟩) := by simpa using hp
  simp only [results, h]
  simp [Sem.run_bind, Result.andThen, hp']
  go_simp

set_option maxRecDepth 100000 in
set_option maxHeartbeats 4000000 in
theorem back2_any (A : Option Addr) (l : List Tri) (c : Nat) (st lt wi : Int) (w : World) :
    Calls Try.prog 18 #[.slice A l.length c, .agg #[.int .i64 2, .int .i64 st, .int .i64 lt, .int .i64 wi]] w (Ret (.tuple #[.agg #[.int .i64 1, .int .i64 st, .int .i64 lt, .int .i64 0], .bool true]) w) := by
  go_enter Try.func18, Try.ntmps18
  go_wp2_with fail
  refine flt_ret2 rfl rfl (g := w.heap.size + 1) (by simpa using Blk.new (w.alloc (.cells #[.int .i64 2, .int .i64 st, .int .i64 lt, .int .i64 wi] 24)) 24 #[.int .i64 1, .int .i64 st, .int .i64 lt, .int .i64 0]) rfl ?_
  exact Ret.val rfl (by (repeat' first | exact Below.refl _ _ | apply Below.drew | (refine Below.setCells ?_ _ _ ?_) | (refine Below.setCell ?_ ?_ _) | (refine Below.alloc ?_ ?_ _) | (simp; done) | (simp; omega)))

set_option maxRecDepth 100000 in
set_option maxHeartbeats 4000000 in
theorem back5_any (A : Option Addr) (l : List Tri) (c : Nat) (st lt wi : Int) (w : World) (hwi : wi = 1 ∨ wi = -1) :
    Calls Try.prog 18 #[.slice A l.length c, .agg #[.int .i64 5, .int .i64 st, .int .i64 lt, .int .i64 wi]] w (Ret (.tuple #[.agg #[.int .i64 5, .int .i64 st, .int .i64 0, .int .i64 (-wi)], .bool true]) w) := by
  rcases hwi with rfl | rfl
  · go_enter Try.func18, Try.ntmps18
    go_wp2_with fail
    refine flt_ret2 rfl rfl (g := w.heap.size + 1) (by simpa using Blk.new (w.alloc (.cells #[.int .i64 5, .int .i64 st, .int .i64 lt, .int .i64 1] 24)) 24 #[.int .i64 5, .int .i64 st, .int .i64 0, .int .i64 (-1)]) rfl ?_
    exact Ret.val rfl (by (repeat' first | exact Below.refl _ _ | apply Below.drew | (refine Below.setCells ?_ _ _ ?_) | (refine Below.setCell ?_ ?_ _) | (refine Below.alloc ?_ ?_ _) | (simp; done) | (simp; omega)))
  · go_enter Try.func18, Try.ntmps18
    go_wp2_with fail
    refine flt_ret2 rfl rfl (g := w.heap.size + 1) (by simpa using Blk.new (w.alloc (.cells #[.int .i64 5, .int .i64 st, .int .i64 lt, .int .i64 (-1)] 24)) 24 #[.int .i64 5, .int .i64 st, .int .i64 0, .int .i64 1]) rfl ?_
    exact Ret.val rfl (by (repeat' first | exact Below.refl _ _ | apply Below.drew | (refine Below.setCells ?_ _ _ ?_) | (refine Below.setCell ?_ ?_ _) | (refine Below.alloc ?_ ?_ _) | (simp; done) | (simp; omega)))

set_option maxRecDepth 100000 in
set_option maxHeartbeats 4000000 in
theorem back0_any (A : Option Addr) (l : List Tri) (c : Nat) (k st lt wi : Int) (w : World) (hk : k = 3 ∨ k = 4 ∨ k = 6) :
    Calls Try.prog 18 #[.slice A l.length c, .agg #[.int .i64 k, .int .i64 st, .int .i64 lt, .int .i64 wi]] w (Ret (.tuple #[.agg #[.int .i64 k, .int .i64 st, .int .i64 lt, .int .i64 wi], .bool (decide (k ≠ 4))]) w) := by
  rcases hk with rfl | rfl | rfl
  · go_enter Try.func18, Try.ntmps18
    go_wp2_with fail
    go_region
    go_wp2_with fail
    refine flt_ret2 rfl rfl (g := w.heap.size + 1) (by simpa using (Blk.new (w.alloc (.cells #[.int .i64 3, .int .i64 st, .int .i64 lt, .int .i64 wi] 24)) 24 #[.int .i64 3, .int .i64 st, .int .i64 lt, .int .i64 wi]).drew) rfl ?_
    exact Ret.val rfl (by (repeat' first | exact Below.refl _ _ | apply Below.drew | (refine Below.setCells ?_ _ _ ?_) | (refine Below.setCell ?_ ?_ _) | (refine Below.alloc ?_ ?_ _) | (simp; done) | (simp; omega)))
  · go_enter Try.func18, Try.ntmps18
    go_wp2_with fail
    go_region
    go_wp2_with fail
    refine flt_ret2 rfl rfl (g := w.heap.size + 1) (by simpa using (Blk.new (w.alloc (.cells #[.int .i64 4, .int .i64 st, .int .i64 lt, .int .i64 wi] 24)) 24 #[.int .i64 4, .int .i64 st, .int .i64 lt, .int .i64 wi]).drew) rfl ?_
    exact Ret.val rfl (by (repeat' first | exact Below.refl _ _ | apply Below.drew | (refine Below.setCells ?_ _ _ ?_) | (refine Below.setCell ?_ ?_ _) | (refine Below.alloc ?_ ?_ _) | (simp; done) | (simp; omega)))
  · go_enter Try.func18, Try.ntmps18
    go_wp2_with fail
    go_region
    go_wp2_with fail
    refine flt_ret2 rfl rfl (g := w.heap.size + 1) (by simpa using (Blk.new (w.alloc (.cells #[.int .i64 6, .int .i64 st, .int .i64 lt, .int .i64 wi] 24)) 24 #[.int .i64 6, .int .i64 st, .int .i64 lt, .int .i64 wi]).drew) rfl ?_
    exact Ret.val rfl (by (repeat' first | exact Below.refl _ _ | apply Below.drew | (refine Below.setCells ?_ _ _ ?_) | (refine Below.setCell ?_ ?_ _) | (refine Below.alloc ?_ ?_ _) | (simp; done) | (simp; omega)))

set_option maxRecDepth 100000 in
set_option maxHeartbeats 4000000 in
theorem back1_any (A : Option Addr) (l : List Tri) (c : Nat) (n m : Nat) (wi : Int) (w : World) (H : Nat) (hr : RdT w H A l) (hH : H ≤ w.heap.size) (hl : l.length ≤ 100000) (hn : n < l.length) (hm : m < (xAt l n).s.size) (hs : (xAt l n).s.size ≤ 1000) :
    Calls Try.prog 18 #[.slice A l.length c, .agg #[.int .i64 1, .int .i64 n, .int .i64 m, .int .i64 wi]] w (Ret (.tuple #[.agg #[.int .i64 2, .int .i64 n, .int .i64 m, .int .i64 (byteAt (xAt l n).s m).toNat], .bool true]) w) := by
  obtain ⟨b, o, rfl, hb0, g0, g1, g2⟩ := hr.tri hn
  rw [byteAt_nat _ hm]
  rw [← xAt_of hn] at g2
  obtain ⟨s, hS⟩ : ∃ s, xAt l n = s := ⟨_, rfl⟩
  rw [hS] at g2 hs
  subst hS
  have lb := lt_of_cell g2
  have kF := (Blk.new w 24 #[.int .i64 1, .int .i64 n, .int .i64 m, .int .i64 wi]).alloc (.cells #[.int .i64 0, .int .i64 0, .int .i64 0, .int .i64 0] 24)
  have e1 := kF.cell 1 (.int .i64 n) rfl
  have e2 := kF.cell 2 (.int .i64 m) rfl
  have e3 := cell_old (o := .cells #[.int .i64 0, .int .i64 0, .int .i64 0, .int .i64 0] 24) (cell_old (o := .cells #[.int .i64 1, .int .i64 n, .int .i64 m, .int .i64 wi] 24) g2)
  have n0 : (n : Int) < (l.length : Int) := by omega
  have n9 : (0 : Int) ≤ (n : Int) := by omega
  have m0 : (m : Int) < ((xAt l n).s.size : Int) := by omega
  have m9 : (0 : Int) ≤ (m : Int) := by omega
  have h64 : IntKind.i64.wrap ((((xAt l n).s[m]'hm).toNat : Nat) : Int) = ((((xAt l n).s[m]'hm).toNat : Nat) : Int) := IntWalk.i64_in _ (by have := ((xAt l n).s[m]'hm).toNat_lt; omega)
  go_enter Try.func18, Try.ntmps18
  go_wp2_with fail
  refine wp_region_J (fun _ => True) (fun w' => w'.cell? ⟨w.heap.size, 1, none⟩ = some (.int .i64 n) ∧ w'.cell? ⟨w.heap.size, 2, none⟩ = some (.int .i64 m) ∧ w'.cell? ⟨b, o + n * 3 + 2, none⟩ = some (.string (xAt l n).s)) (fun i => i < 15) (by kernel_rfl) ?_
  have hS2 : ((w.alloc (.cells #[.int .i64 1, .int .i64 n, .int .i64 m, .int .i64 wi] 24)).alloc (.cells #[.int .i64 0, .int .i64 0, .int .i64 0, .int .i64 0] 24)).drew.cell? ⟨w.heap.size, 1, none⟩ = some (.int .i64 n) ∧ ((w.alloc (.cells #[.int .i64 1, .int .i64 n, .int .i64 m, .int .i64 wi] 24)).alloc (.cells #[.int .i64 0, .int .i64 0, .int .i64 0, .int .i64 0] 24)).drew.cell? ⟨w.heap.size, 2, none⟩ = some (.int .i64 m) ∧ ((w.alloc (.cells #[.int .i64 1, .int .i64 n, .int .i64 m, .int .i64 wi] 24)).alloc (.cells #[.int .i64 0, .int .i64 0, .int .i64 0, .int .i64 0] 24)).drew.cell? ⟨b, o + n * 3 + 2, none⟩ = some (.string (xAt l n).s) := ⟨e1, e2, e3⟩
  refine wpAnyJ_take2 0 rfl (by kernel_rfl) (by kernel_rfl) (by kernel_rfl) (by kernel_rfl) (fun _ _ _ h => h) (by rfl) trivial hS2 (fun w' hSw => (by obtain ⟨-, z1, z2, z3⟩ := hSw; go_simp; try (with_reducible rfl))) ?_
  try simp only [Act.put, List.getElem_toArray, List.getElem_cons_succ, List.getElem_cons_zero, List.setIfInBounds_toArray, List.set_cons_zero, List.set_cons_succ]
  refine wpAnyJ_take2 1 rfl (by kernel_rfl) (by kernel_rfl) (by kernel_rfl) (by kernel_rfl) (fun _ _ _ h => h) (by rfl) trivial hS2 (fun w' hSw => (by obtain ⟨-, z1, z2, z3⟩ := hSw; go_simp; try (with_reducible rfl))) ?_
  try simp only [Act.put, List.getElem_toArray, List.getElem_cons_succ, List.getElem_cons_zero, List.setIfInBounds_toArray, List.set_cons_zero, List.set_cons_succ]
  refine wpAnyJ_take2 2 rfl (by kernel_rfl) (by kernel_rfl) (by kernel_rfl) (by kernel_rfl) (fun _ _ _ h => h) (by rfl) trivial hS2 (fun w' hSw => (by obtain ⟨-, z1, z2, z3⟩ := hSw; go_simp; try (with_reducible rfl))) ?_
  try simp only [Act.put, List.getElem_toArray, List.getElem_cons_succ, List.getElem_cons_zero, List.setIfInBounds_toArray, List.set_cons_zero, List.set_cons_succ]
  refine wpAnyJ_take2 3 rfl (by kernel_rfl) (by kernel_rfl) (by kernel_rfl) (by kernel_rfl) (fun _ _ _ h => h) (by rfl) trivial hS2 (fun w' hSw => (by obtain ⟨-, z1, z2, z3⟩ := hSw; go_simp; try (with_reducible rfl))) ?_
  try simp only [Act.put, List.getElem_toArray, List.getElem_cons_succ, List.getElem_cons_zero, List.setIfInBounds_toArray, List.set_cons_zero, List.set_cons_succ]
  refine wpAnyJ_take2 4 rfl (by kernel_rfl) (by kernel_rfl) (by kernel_rfl) (by kernel_rfl) (fun _ _ _ h => h) (by rfl) trivial hS2 (fun w' hSw => (by obtain ⟨-, z1, z2, z3⟩ := hSw; go_simp; try (with_reducible rfl))) ?_
  try simp only [Act.put, List.getElem_toArray, List.getElem_cons_succ, List.getElem_cons_zero, List.setIfInBounds_toArray, List.set_cons_zero, List.set_cons_succ]
  refine wpAnyJ_take2 5 rfl (by kernel_rfl) (by kernel_rfl) (by kernel_rfl) (by kernel_rfl) (fun _ _ _ h => h) (by rfl) trivial hS2 (fun w' hSw => (by obtain ⟨-, z1, z2, z3⟩ := hSw; go_simp; try (with_reducible rfl))) ?_
  try simp only [Act.put, List.getElem_toArray, List.getElem_cons_succ, List.getElem_cons_zero, List.setIfInBounds_toArray, List.set_cons_zero, List.set_cons_succ]
  refine wpAnyJ_take2 6 rfl (by kernel_rfl) (by kernel_rfl) (by kernel_rfl) (by kernel_rfl) (fun _ _ _ h => h) (by rfl) trivial hS2 (fun w' hSw => (by obtain ⟨-, z1, z2, z3⟩ := hSw; go_simp; try (with_reducible rfl))) ?_
  try simp only [Act.put, List.getElem_toArray, List.getElem_cons_succ, List.getElem_cons_zero, List.setIfInBounds_toArray, List.set_cons_zero, List.set_cons_succ]
  refine wpAnyJ_take2 7 rfl (by kernel_rfl) (by kernel_rfl) (by kernel_rfl) (by kernel_rfl) (fun _ _ _ h => h) (by rfl) trivial hS2 (fun w' hSw => (by obtain ⟨-, z1, z2, z3⟩ := hSw; go_simp; try (with_reducible rfl))) ?_
  try simp only [Act.put, List.getElem_toArray, List.getElem_cons_succ, List.getElem_cons_zero, List.setIfInBounds_toArray, List.set_cons_zero, List.set_cons_succ]
  refine wpAnyJ_take2 8 rfl (by kernel_rfl) (by kernel_rfl) (by kernel_rfl) (by kernel_rfl) (fun _ _ _ h => h) (by rfl) trivial hS2 (fun w' hSw => (by obtain ⟨-, z1, z2, z3⟩ := hSw; go_simp; try (with_reducible rfl))) ?_
  try simp only [Act.put, List.getElem_toArray, List.getElem_cons_succ, List.getElem_cons_zero, List.setIfInBounds_toArray, List.set_cons_zero, List.set_cons_succ]
  refine wpAnyJ_take2 9 rfl (by kernel_rfl) (by kernel_rfl) (by kernel_rfl) (by kernel_rfl) (fun _ _ _ h => h) (by rfl) trivial hS2 (fun w' hSw => (by obtain ⟨-, z1, z2, z3⟩ := hSw; go_simp; try (with_reducible rfl))) ?_
  try simp only [Act.put, List.getElem_toArray, List.getElem_cons_succ, List.getElem_cons_zero, List.setIfInBounds_toArray, List.set_cons_zero, List.set_cons_succ]
  refine wpAnyJ_take2 10 rfl (by kernel_rfl) (by kernel_rfl) (by kernel_rfl) (by kernel_rfl) (fun _ _ _ h => h) (by rfl) trivial hS2 (fun w' hSw => (by obtain ⟨-, z1, z2, z3⟩ := hSw; go_simp; try (with_reducible rfl))) ?_
  try simp only [Act.put, List.getElem_toArray, List.getElem_cons_succ, List.getElem_cons_zero, List.setIfInBounds_toArray, List.set_cons_zero, List.set_cons_succ]
  refine wpAnyJ_take2 11 rfl (by kernel_rfl) (by kernel_rfl) (by kernel_rfl) (by kernel_rfl) (fun _ _ _ h => h) (by rfl) trivial hS2 (fun w' hSw => (by obtain ⟨-, z1, z2, z3⟩ := hSw; go_simp; try (with_reducible rfl))) ?_
  try simp only [Act.put, List.getElem_toArray, List.getElem_cons_succ, List.getElem_cons_zero, List.setIfInBounds_toArray, List.set_cons_zero, List.set_cons_succ]
  refine wpAnyJ_take2 12 rfl (by kernel_rfl) (by kernel_rfl) (by kernel_rfl) (by kernel_rfl) (fun _ _ _ h => h) (by rfl) trivial hS2 (fun w' hSw => (by obtain ⟨-, z1, z2, z3⟩ := hSw; go_simp; try (with_reducible rfl))) ?_
  try simp only [Act.put, List.getElem_toArray, List.getElem_cons_succ, List.getElem_cons_zero, List.setIfInBounds_toArray, List.set_cons_zero, List.set_cons_succ]
  refine wpAnyJ_take2 13 rfl (by kernel_rfl) (by kernel_rfl) (by kernel_rfl) (by kernel_rfl) (fun _ _ _ h => h) (by rfl) trivial hS2 (fun w' hSw => (by obtain ⟨-, z1, z2, z3⟩ := hSw; go_simp; try (with_reducible rfl))) ?_
  try simp only [Act.put, List.getElem_toArray, List.getElem_cons_succ, List.getElem_cons_zero, List.setIfInBounds_toArray, List.set_cons_zero, List.set_cons_succ]
  refine wpAnyJ_take2 14 rfl (by kernel_rfl) (by kernel_rfl) (by kernel_rfl) (by kernel_rfl) (fun _ _ _ h => h) (by rfl) trivial hS2 (fun w' hSw => (by obtain ⟨-, z1, z2, z3⟩ := hSw; go_simp; try (with_reducible rfl))) ?_
  try simp only [Act.put, List.getElem_toArray, List.getElem_cons_succ, List.getElem_cons_zero, List.setIfInBounds_toArray, List.set_cons_zero, List.set_cons_succ]
  refine wpAnyJ_ready [15] (by kernel_rfl) (by simp) (NextJ.cons rfl (fun K hK => ?_) NextJ.nil)
  go_simp
  refine hK.out _ _ trivial (fun h => absurd h (by decide)) ?_
  clear hK K
  try simp only [Act.put, List.getElem_toArray, List.getElem_cons_succ, List.getElem_cons_zero, List.setIfInBounds_toArray, List.set_cons_zero, List.set_cons_succ]
  refine wpAnyJ_ready [16] (by kernel_rfl) (by simp) (NextJ.cons rfl (fun K hK => ?_) NextJ.nil)
  go_simp
  refine hK.out _ _ trivial (fun h => absurd h (by decide)) ?_
  clear hK K
  try simp only [Act.put, List.getElem_toArray, List.getElem_cons_succ, List.getElem_cons_zero, List.setIfInBounds_toArray, List.set_cons_zero, List.set_cons_succ]
  refine wpAnyJ_done (by kernel_rfl) ?_ _
  clear hS2
  go_wp2_with fail
  refine flt_ret2 rfl rfl (g := w.heap.size + 1) (by simpa using (Blk.new (w.alloc (.cells #[.int .i64 1, .int .i64 n, .int .i64 m, .int .i64 wi] 24)) 24 #[.int .i64 2, .int .i64 n, .int .i64 m, .int .i64 ((xAt l n).s[m]'hm).toNat]).drew) rfl ?_
  exact Ret.val rfl (by (repeat' first | exact Below.refl _ _ | apply Below.drew | (refine Below.setCells ?_ _ _ ?_) | (refine Below.setCell ?_ ?_ _) | (refine Below.alloc ?_ ?_ _) | (simp; done) | (simp; omega)))
end Go.Proofs.Ytblifdchofihoaa
