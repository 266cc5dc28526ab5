/- what CompileKnown calls. -/
import Derived.Test.YtogkgoabonbkkaaDoorPrint2
import Derived.Test.YtogkgoabonbkkaaDoorAwake2
import Derived.Test.YtogkgoabonbkkaaDoorCSheet
set_option linter.unusedSimpArgs false
set_option linter.unusedVariables false
namespace Go.Proofs.YtogkgoabonbkkaaDoor
open Go Go.RowKit Tor

theorem rdT_new {w : World} {g : Nat} {t : TypeId} {l : List Tri} (h : Blk w g t (l.flatMap Tri.enc).toArray) : RdT w w.heap.size (some ⟨g, 0, none⟩) l := fun _ =>
  ⟨g, 0, rfl, h.lt, fun k x hx j u hu => by
    have := flatMap_get tri_len l k x hx j u hu
    exact h.cell _ u (by simpa using this)⟩

theorem ex_quick2 : placesOf (qloop exL 5 2 2000 4 []) = [0, 3] := by decide
theorem ex_chk6 : chkE 5 exL 6 = 7 := by decide
theorem quick_ex2 (A : Option Addr) (c : Nat) (w : World) (hr : RdT w w.heap.size A exL) : Calls Tryd.prog 4 #[.agg #[.int .i64 5, .slice A exL.length c], .int .i64 2] w fun e w' => ∃ (A' : Option Addr) (l : List Tri) (c' : Nat), e = .returned (.tuple #[.slice A' l.length c', .int .i64 0]) ∧ RdT w' w'.heap.size A' l ∧ l.length ≤ 100 ∧ Hid (placesOf l = [0, 3]) ∧ Below w.heap.size w w' :=
  (quick_any 5 2 A exL c w w.heap.size hr (Nat.le_refl _) ex_words ex_chk2 ex_bounds (by decide) (by decide) (by decide) (by decide)).mono fun e w' ⟨v, h1, h2, h3⟩ => by
    obtain ⟨A', c', hv, _, hd⟩ := Own.rd tri_len h2
    exact ⟨A', _, c', by rw [h1, hv], hd, by decide, ex_quick2, h3⟩
theorem steps_ex6 (A : Option Addr) (c : Nat) (w : World) (hr : RdT w w.heap.size A exL) : Calls Tryd.prog 8 #[.agg #[.int .i64 5, .slice A exL.length c], .int .i64 6] w fun e w' => e = .returned (.tuple #[.slice none 0 0, .int .i64 7]) ∧ Below w.heap.size w w' :=
  (cSteps_err 5 6 A exL c w w.heap.size hr (Nat.le_refl _) ex_words (by rw [ex_chk6]; decide) (by decide)).mono fun e w' h => by
    rw [ex_chk6] at h; exact h
def knA : List Tri := [⟨2, 0, exW⟩]
def knB : List Tri := [⟨1, 1, ByteArray.empty⟩, ⟨2, 1, exW⟩, ⟨3, 2, ByteArray.empty⟩]
theorem kn_sheet : sheetR 5 2 knA = (0, [], 0, 9) := by decide
theorem kn_print : printR knB = ([114, 101, 97, 99, 104, 32, 49, 10, 115, 116, 105, 116, 99, 104, 32, 49, 32, 67, 84, 10, 115, 101, 119, 32, 50, 10], 0) := by
  have h1 : Lib.decDigits 1 = [49] := by rw [Lib.decDigits_one (by decide)]; decide
  have h2 : Lib.decDigits 2 = [50] := by rw [Lib.decDigits_one (by decide)]; decide
  unfold printR
  rw [if_neg (by decide), if_neg (by decide), if_neg (by decide)]
  have e1 : lineB ⟨1, 1, ByteArray.empty⟩ = [114, 101, 97, 99, 104, 32, 49, 10] := by unfold lineB; rw [show (⟨1, 1, ByteArray.empty⟩ : Tri).b.toNat = 1 from rfl, h1]; decide
  have e2 : lineB ⟨2, 1, exW⟩ = [115, 116, 105, 116, 99, 104, 32, 49, 32, 67, 84, 10] := by unfold lineB; rw [show (⟨2, 1, exW⟩ : Tri).b.toNat = 1 from rfl, h1]; decide
  have e3 : lineB ⟨3, 2, ByteArray.empty⟩ = [115, 101, 119, 32, 50, 10] := by unfold lineB; rw [show (⟨3, 2, ByteArray.empty⟩ : Tri).b.toNat = 2 from rfl, h2]; decide
  simp only [knB, List.flatMap_cons, List.flatMap_nil, e1, e2, e3]
  rfl

theorem sheet_kn (A : Option Addr) (c : Nat) (w : World) (H : Nat) (hr : RdT w H A knA) (hH : H ≤ w.heap.size) :
    Calls Tryd.prog 6 #[.int .i64 5, .int .i64 2, .slice A knA.length c] w fun e w' => ∃ A' n c', e = .returned (.tuple #[.agg #[.int .i64 0, .slice A' n c'], .int .i64 0, .int .i64 9]) ∧ Below w.heap.size w w' :=
  (csheet_any 5 2 A knA c w H hr hH (by decide) (by decide)).mono fun e w' ⟨v, h1, h2, h3⟩ => by
    obtain ⟨A', c', hv, _, hd⟩ := Own.rd tri_len h2
    rw [kn_sheet] at h1
    exact ⟨A', _, c', by rw [h1, hv], h3⟩
theorem print_kn (A : Option Addr) (c : Nat) (w : World) (H : Nat) (hr : RdT w H A knB) (hH : H ≤ w.heap.size) :
    Calls Tryd.prog 7 #[.slice A knB.length c] w fun e w' => e = .returned (.tuple #[.string ⟨#[114, 101, 97, 99, 104, 32, 49, 10, 115, 116, 105, 116, 99, 104, 32, 49, 32, 67, 84, 10, 115, 101, 119, 32, 50, 10]⟩, .int .i64 0]) ∧ Below w.heap.size w w' :=
  (cprint_any A knB c w H hr hH (by decide) (by decide)).mono fun e w' ⟨h1, h3⟩ => by
    rw [kn_print] at h1
    exact ⟨h1, h3⟩

set_option maxRecDepth 100000 in
set_option maxHeartbeats 1000000 in
theorem lawKnown_any (w : World) : Calls Tryd.prog 3 #[] w (Ret (.bool true) w) := by
  go_enter Tryd.func3, Tryd.ntmps3
  go_wp2_with fail
  refine (example_any _).mono ?_
  rintro e w1 ⟨g1, rfl, hr1, hB1⟩
  go_wp2_with fail
  refine (quick_ex2 _ _ _ hr1).mono ?_
  rintro e w2 ⟨A2, l2, c2, rfl, hr2, hn2, hp2, hB2⟩
  have kz2 := hn2
  go_wp2_with fail
  refine (sheet_kn _ 1 _ _ (rdT_new (l := knA) (Blk.new w2 _ _)) (Nat.le_refl _)).mono ?_
  rintro e w3 ⟨A3, n3, c3, rfl, hB3⟩
  have hB23 : Below w2.heap.size w2 w3 := ((Below.refl _ _).alloc (Nat.le_refl _) _).trans (hB3.mono (by simp))
  go_wp2_with fail
  have hb : Blk ((w3.alloc (.cells #[.int .i64 0, .slice A3 n3 c3] 28)).alloc (.cells (knB.flatMap Tri.enc).toArray 33)) (w3.heap.size + 1) 33 (knB.flatMap Tri.enc).toArray := by
    have := Blk.new (w3.alloc (.cells #[.int .i64 0, .slice A3 n3 c3] 28)) 33 (knB.flatMap Tri.enc).toArray
    rwa [World.size_alloc] at this
  refine (print_kn _ 3 _ _ (rdT_new hb) (Nat.le_refl _)).mono ?_
  rintro e w4 ⟨rfl, hB4⟩
  have hB34 : Below w3.heap.size w3 w4 := (((Below.refl _ _).alloc (Nat.le_refl _) _).alloc (by simp) _).trans (hB4.mono (by simp; omega))
  go_wp2_with fail
  refine (example_any _).mono ?_
  rintro e w5 ⟨g5, rfl, hr5, hB5⟩
  go_wp2_with fail
  refine (steps_ex6 _ _ _ hr5).mono ?_
  rintro e w6 ⟨rfl, hB6⟩
  have hB46 : Below w4.heap.size w4 w6 := hB5.trans (hB6.mono hB5.size)
  have hB26 : Below w2.heap.size w2 w6 := (hB23.trans (hB34.mono hB23.size)).trans (hB46.mono (Nat.le_trans hB23.size hB34.size))
  have hBw6 : Below w.heap.size w w6 := (hB1.trans (hB2.mono hB1.size)).trans (hB26.mono (Nat.le_trans hB1.size hB2.size))
  go_wp2_with fail
  refine (places_rd A2 l2 c2 w6 _ (by omega) (hr2.below hB26) hB26.size hp2).mono ?_
  rintro e w7 ⟨A7, c7, rfl, hr7, hB7⟩
  go_wp2_with fail
  refine (sameInts_eq A7 _ [0, 3] c7 2 _ _ (by decide) (rdI_alloc hr7 _) (ints_new (l := [0, 3]) (Blk.new w7 _ _)) (Nat.le_refl _)).mono ?_
  rintro e w8 ⟨rfl, hB8⟩
  have hB68 : Below w6.heap.size w6 w8 := (hB7.alloc hB7.size _).trans (hB8.mono (by have := hB7.size; simp; omega))
  go_wp2_with fail
  refine (awake_any _).mono ?_
  rintro e w9 ⟨rfl, hB9⟩
  go_wp2_with fail
  go_ret
  exact Ret.bool rfl ((hBw6.trans (hB68.mono hBw6.size)).trans (hB9.mono (Nat.le_trans hBw6.size hB68.size)))
end Go.Proofs.YtogkgoabonbkkaaDoor
