/- Merged: DLawA DLawR DShown. -/
import Derived.Test.YtoccplfnjammjaaGreatDoorDReadA
set_option linter.unusedSimpArgs false
set_option linter.unusedVariables false
namespace Go.Proofs.YtoccplfnjammjaaGreatDoor
open Go Go.RowKit Tor

/-- the sheet of the examples -/
def exD : List Tri := [⟨1, 0, ⟨#[67, 84]⟩⟩, ⟨1, 2, ⟨#[67, 84, 67]⟩⟩, ⟨1, 1, ⟨#[67, 84]⟩⟩]
theorem exD_sheet : sheetE ((4 : Nat) : Int) exD = 0 := by decide
theorem exD_rows : rowsS 4 exD = [[0, 1], [2]] := by decide
def exT : List UInt8 := [100, 105, 97, 103, 114, 97, 109, 32, 52, 32, 50, 10, 108, 101, 116, 116, 101, 114, 32, 65, 32, 67, 84, 10, 108, 101, 116, 116, 101, 114, 32, 66, 32, 67, 84, 67, 10, 40, 65, 41, 32, 40, 66, 41, 10, 124, 32, 40, 65, 41, 32, 124, 10]
theorem exD_draw : drawE 4 exD = (exT, 0) := by decide +kernel
theorem exD_read : readA exT = .ok (4, exD) := by kernel_rfl
theorem rdT_exD {w : World} {g : Nat} {t : TypeId} (h : Blk w g t #[.int .i64 1, .int .i64 0, .string ⟨#[67, 84]⟩, .int .i64 1, .int .i64 2, .string ⟨#[67, 84, 67]⟩, .int .i64 1, .int .i64 1, .string ⟨#[67, 84]⟩]) : RdT w w.heap.size (some ⟨g, 0, none⟩) exD := fun _ => by
  refine ⟨g, 0, rfl, h.lt, ?_⟩
  intro k x hx j u hu
  have hk : k < 3 := (List.getElem?_eq_some_iff.1 hx).1
  have hcase : k = 0 ∨ k = 1 ∨ k = 2 := by omega
  rcases hcase with rfl | rfl | rfl <;>
    (cases hx
     have hj : j < 3 := (List.getElem?_eq_some_iff.1 hu).1
     have hjc : j = 0 ∨ j = 1 ∨ j = 2 := by omega
     rcases hjc with rfl | rfl | rfl <;> (cases hu; exact h.cell _ _ rfl))
theorem example_any (w : World) : Calls Tryz.prog 25 #[] w fun e w' => ∃ A, e = .returned (.agg #[.int .i64 4, .slice A exD.length 3]) ∧ RdT w' w'.heap.size A exD ∧ Below w.heap.size w w' := by
  go_enter Tryz.func25, Tryz.ntmps25
  go_wp2_with fail
  have hb := Blk.new (w.alloc (.cells #[.int .i64 4, .slice (some ⟨w.heap.size + 1, 0, none⟩) 3 3] 25)) 44 #[.int .i64 1, .int .i64 0, .string ⟨#[67, 84]⟩, .int .i64 1, .int .i64 2, .string ⟨#[67, 84, 67]⟩, .int .i64 1, .int .i64 1, .string ⟨#[67, 84]⟩]
  have hS := (Blk.new w 25 #[.int .i64 4, .slice (some ⟨w.heap.size + 1, 0, none⟩) 3 3]).alloc (.cells #[.int .i64 1, .int .i64 0, .string ⟨#[67, 84]⟩, .int .i64 1, .int .i64 2, .string ⟨#[67, 84, 67]⟩, .int .i64 1, .int .i64 1, .string ⟨#[67, 84]⟩] 44)
  rw [World.size_alloc] at hb
  refine sheet_ret1 rfl rfl (g := w.heap.size) (x := .int .i64 4) (y := .slice (some ⟨w.heap.size + 1, 0, none⟩) 3 3) hS rfl ?_
  exact ⟨_, rfl, rdT_exD hb, by (repeat' first | exact Below.refl _ _ | apply Below.drew | (refine Below.setCells ?_ _ _ ?_) | (refine Below.setCell ?_ ?_ _) | (refine Below.alloc ?_ ?_ _) | (simp; done) | (simp; omega))⟩
theorem text_any (w : World) : Calls Tryz.prog 31 #[] w (Ret (.string (bN exT)) w) := by
  go_enter Tryz.func31, Tryz.ntmps31
  go_wp2_with fail
  go_ret
  exact ⟨rfl, Below.refl _ _⟩
end Go.Proofs.YtoccplfnjammjaaGreatDoor

namespace Go.Proofs.YtoccplfnjammjaaGreatDoor
open Go Go.RowKit Tor

def castL (l : List Nat) : List Int := l.map Int.ofNat
theorem castL_inj {l m : List Nat} : castL l = castL m ↔ l = m := by
  unfold castL
  exact List.map_inj_right (fun a b h => Int.ofNat.inj h)
theorem castL_len (l : List Nat) : (castL l).length = l.length := by simp [castL]
theorem rdI_of {w : World} {H : Nat} {A : Option Addr} {l : List Nat} (h : Rd 1 nenc w H A l) : RdI w H A (castL l) := fun hne => by
  obtain ⟨b, o, e, hb, hc⟩ := h (fun e => by subst e; exact hne rfl)
  refine ⟨b, o, e, hb, fun k x hx j u hu => ?_⟩
  unfold castL at hx
  rw [List.getElem?_map] at hx
  cases hk : l[k]? with
  | none => rw [hk] at hx; cases hx
  | some y => rw [hk] at hx; cases hx; exact hc k y hk j u hu
set_option maxRecDepth 100000 in
theorem rowsEq_any (A B : Option Addr) (R M : List (List Nat)) (c d : Nat) (w : World) (H : Nat) (hl : R.length ≤ 100000) (hR : ∀ r ∈ R, r.length ≤ 100000) (hM : ∀ r ∈ M, r.length ≤ 100000) (ha : RdG w H A R) (hb : RdG w H B M) (hH : H ≤ w.heap.size) :
    Calls Tryz.prog 28 #[.slice A R.length c, .slice B M.length d] w (Ret (.bool (decide (R = M))) w) := by
  have HR := Lib.hid hR
  have HM := Lib.hid hM
  clear hR hM
  go_enter Tryz.func28, Tryz.ntmps28
  by_cases hnm : R.length = M.length
  · have hnm' : ((R.length : Int) != (M.length : Int)) = false := by simp [hnm]
    have H0 := Lib.hid hnm
    clear hnm
    go_wp2_with fail
    go_loopw [5] (fun i wr => ∃ k : Nat, k ≤ R.length ∧ i = .int .i64 k ∧ Hid (R.take k = M.take k) ∧ Below w.heap.size w wr) (fun i _ => R.length - (intOf i).toNat)
    case atStart => exact ⟨0, Nat.zero_le _, rfl, by simp [Hid], Below.refl _ _⟩
    case round =>
      obtain ⟨k, hk, rfl, ht, hB⟩ := hrel
      by_cases hlt : k < R.length
      · obtain ⟨b, o, rfl, hb0, Ak, ck, h0, hA⟩ := (ha.below' hB hH).row hlt
        have hlt' : k < M.length := by rw [← H0.out]; exact hlt
        obtain ⟨b', o', rfl, hb0', Bk, dk, g0, hBk⟩ := (hb.below' hB hH).row hlt'
        have hz := hB.size
        have l1 := lt_of_cell h0
        have l2 := lt_of_cell g0
        have k0 : (0 : Int) ≤ (k : Int) := by omega
        have k1 : (k : Int) < (R.length : Int) := by omega
        have k2 : (k : Int) < (M.length : Int) := by omega
        have hr1 := HR.out R[k] (List.getElem_mem hlt)
        have hr2 := HM.out M[k] (List.getElem_mem hlt')
        obtain ⟨x, hx⟩ : ∃ x, Hid (R[k] = x) := ⟨_, Lib.hid rfl⟩
        obtain ⟨y, hy⟩ : ∃ y, Hid (M[k] = y) := ⟨_, Lib.hid rfl⟩
        rw [hx.out] at h0 hA hr1
        rw [hy.out] at g0 hBk hr2
        have HS := Lib.hid (fun (g : Ex wr) => calls_ex (P := Tryz.prog) (show Calls Tryz.prog 20 #[.slice Ak x.length ck, .slice Bk y.length dk] g.w (Ret (.bool (decide (castL x = castL y))) g.w) from by
          have := sameInts_any Ak Bk (castL x) (castL y) ck dk g.w H (by rw [castL_len]; exact hr1) (by rw [castL_len]; exact hr2) ((rdI_of hA).below' g.h (by omega)) ((rdI_of hBk).below' g.h (by omega)) (by have := g.h.size; omega)
          rw [castL_len, castL_len] at this
          exact this))
        by_cases he : x = y
        · have e1 : decide (castL x = castL y) = true := by simp [he]
          rw [e1] at HS
          have HE := Lib.hid he
          clear he e1
          go_wp2_with fail
          refine wp_region_ex (by kernel_rfl) (by kernel_rfl) ?_
          repeat (go_big_quiet_step ((go_at_call 20; refine (HS.out _).mono ?_; rintro e w' ⟨rfl, hg⟩; exact ⟨rfl, hg⟩)))
          refine wpQuiet_nil ?_
          intro _ hw'
          obtain ⟨g, hw''⟩ := hw'
          subst hw''
          have hq := g.h
          go_wp2_with fail
          go_roundw
          case rel => exact ⟨k + 1, by omega, by go_num, take_eq_snoc hlt hlt' (by rw [hx.out, hy.out]; exact HE.out) ht.out, hB.trans (hq.mono hz)⟩
          case measure => simp [intOf]; omega
        · have e1 : decide (castL x = castL y) = false := by rw [decide_eq_false_iff_not, castL_inj]; exact he
          rw [e1] at HS
          have HE := Lib.hid he
          clear he e1
          go_wp2_with fail
          refine wp_region_ex (by kernel_rfl) (by kernel_rfl) ?_
          repeat (go_big_quiet_step ((go_at_call 20; refine (HS.out _).mono ?_; rintro e w' ⟨rfl, hg⟩; exact ⟨rfl, hg⟩)))
          refine wpQuiet_nil ?_
          intro _ hw'
          obtain ⟨g, hw''⟩ := hw'
          subst hw''
          have hq := g.h
          go_wp2_with fail
          go_ret
          exact Ret.bool (by have := take_ne hlt hlt' (by rw [hx.out, hy.out]; exact HE.out); simp [this]) (hB.trans (hq.mono hz))
      · go_wp2_with fail
        go_ret
        exact Ret.bool (by have := take_eq_all hlt H0.out ht.out; simp [this]) hB
  · have hnm' : ((R.length : Int) != (M.length : Int)) = true := by simp; omega
    go_wp2_with fail
    go_ret
    refine ⟨ret_bool ?_, Below.refl _ _⟩
    have : R ≠ M := fun e => hnm (by rw [e])
    simp [this]
theorem same14_any (A B : Option Addr) (l m : List Tri) (p q : Int) (c d : Nat) (w : World) (H : Nat) (hl : l.length ≤ 1000000) (ha : RdT w H A l) (hb : RdT w H B m) (hH : H ≤ w.heap.size) :
    Calls Tryz.prog 13 #[.agg #[.int .i64 p, .slice A l.length c], .agg #[.int .i64 q, .slice B m.length d]] w (Ret (.bool (decide (p = q ∧ l = m))) w) := by
  go_enter Tryz.func13, Tryz.ntmps13
  have hB : Below w.heap.size w ((w.alloc (.cells #[.int .i64 p, .slice A l.length c] 25)).alloc (.cells #[.int .i64 q, .slice B m.length d] 25)) := ((Below.refl _ _).alloc (Nat.le_refl _) _).alloc (by simp) _
  have HS := Lib.hid (same_any A B l m p q c d _ H (by omega) (ha.below' hB hH) (hb.below' hB hH) (by have := hB.size; omega))
  go_wp2_with (first
    | (go_at_call 44; refine HS.out.mono ?_; rintro e w1 ⟨rfl, hB1⟩)
    | fail)
  go_ret
  exact Ret.bool (by simp) (hB.trans (hB1.mono (by simp; omega)))
/-- is it more than is looked at? -/
def longD (x : Tri) : Bool := decide (100 < x.s.size)
def farD (l : List Tri) (m : Int) : Bool := (decide (m < (l.length : Int)) && decide ((l.length : Int) ≤ 400) || decide (420 < (l.length : Int))) || l.any longD
theorem far_any (p : Int) (A : Option Addr) (l : List Tri) (c : Nat) (m : Int) (w : World) (H : Nat) (hr : RdT w H A l) (hH : H ≤ w.heap.size) (hl : l.length ≤ 9223372036854775807) (hw : ∀ (k : Nat) (hk : k < l.length), l[k].s.size ≤ 9223372036854775807) :
    Calls Tryz.prog 15 #[.agg #[.int .i64 p, .slice A l.length c], .int .i64 m] w (Ret (.bool (farD l m)) w) := by
  have HW := Lib.hid hw
  clear hw
  have kS := Blk.new w 25 #[.int .i64 p, .slice A l.length c]
  have hB0 : Below w.heap.size w (w.alloc (.cells #[.int .i64 p, .slice A l.length c] 25)) := (Below.refl _ _).alloc (Nat.le_refl _) _
  have c1 := kS.cell 1 _ rfl
  have kl := kS.lt
  by_cases hf : (m < (l.length : Int) ∧ (l.length : Int) ≤ 400) ∨ (420 : Int) < (l.length : Int)
  · have e : farD l m = true := by
      unfold farD
      rcases hf with ⟨h1, h2⟩ | h
      · simp [h1]; omega
      · simp; omega
    rw [e]
    rcases (show (m < (l.length : Int) ∧ (l.length : Int) ≤ 400) ∨ (m < (l.length : Int) ∧ ¬ (l.length : Int) ≤ 400 ∧ (420 : Int) < (l.length : Int)) ∨ (¬ m < (l.length : Int) ∧ (420 : Int) < (l.length : Int)) from by omega) with ⟨h1, h2⟩ | ⟨h1, h2, h3⟩ | ⟨h1, h2⟩ <;>
      (clear hf
       go_enter Tryz.func15, Tryz.ntmps15
       go_wp2_with fail
       go_ret
       exact ⟨rfl, hB0⟩)
  · have e : farD l m = l.any longD := by
      unfold farD
      have h2 : (decide (m < (l.length : Int)) && decide ((l.length : Int) ≤ 400) || decide (420 < (l.length : Int))) = false := by
        simp only [Bool.or_eq_false_iff, Bool.and_eq_false_iff, decide_eq_false_iff_not]; omega
      rw [h2, Bool.false_or]
    rw [e]
    have hrA := hr.below' hB0 hH
    clear e
    have STEP : Hid (∀ wA, wA = w.alloc (.cells #[.int .i64 p, .slice A l.length c] 25) → True) := Lib.hid (fun _ _ => trivial)
    clear STEP
    rcases (show (m < (l.length : Int) ∧ ¬ (l.length : Int) ≤ 400 ∧ ¬ (420 : Int) < (l.length : Int)) ∨ (¬ m < (l.length : Int) ∧ ¬ (420 : Int) < (l.length : Int)) from by omega) with ⟨h1, h2, h3⟩ | ⟨h1, h2⟩ <;>
      (clear hf
       go_enter Tryz.func15, Tryz.ntmps15
       go_wp2_with fail
       go_loopw [5] (fun i wr => ∃ k : Nat, k ≤ l.length ∧ i = .int .i64 k ∧ Hid ((l.take k).any longD = false) ∧ Below w.heap.size w wr ∧ Below (w.heap.size + 1) (w.alloc (.cells #[.int .i64 p, .slice A l.length c] 25)) wr) (fun i _ => l.length - (intOf i).toNat)
       case atStart => exact ⟨0, Nat.zero_le _, rfl, by simp [Hid], hB0, Below.refl _ _⟩
       case round =>
         obtain ⟨k, hk, rfl, ht, hB, hB1⟩ := hrel
         have g1 := (hB1.cell (p := ⟨w.heap.size, 1, none⟩) (by show w.heap.size < w.heap.size + 1; omega)).trans c1
         have gl := lt_of_cell g1
         by_cases hlt : k < l.length
         · obtain ⟨b, o, rfl, hb0, t0, t1, t2⟩ := (hr.below' hB hH).tri hlt
           have l1 := lt_of_cell t0
           have k0 : (0 : Int) ≤ (k : Int) := by omega
           have k1 : (k : Int) < (l.length : Int) := by omega
           have hs := HW.out k hlt
           obtain ⟨x, hx⟩ : ∃ x, Hid (l[k] = x) := ⟨_, Lib.hid rfl⟩
           rw [hx.out] at t0 t1 t2 hs
           by_cases hlg : (100 : Int) < (x.s.size : Int)
           · go_wp2_with fail
             go_ret
             exact Ret.bool (by rw [any_at longD l k hlt (by rw [hx.out]; unfold longD; simp; omega)]) hB
           · go_wp2_with fail
             go_roundw
             case rel => exact ⟨k + 1, by omega, by go_num, any_snoc longD l k hlt ht.out (by rw [hx.out]; unfold longD; simp; omega), hB, hB1⟩
             case measure => simp [intOf]; omega
         · go_wp2_with fail
           go_ret
           exact Ret.bool (by rw [any_end longD l k hlt ht.out]) hB)
end Go.Proofs.YtoccplfnjammjaaGreatDoor

namespace Go.Proofs.YtoccplfnjammjaaGreatDoor
open Go Go.RowKit Tor

def exR : List (List Nat) := [[0, 1], [2]]
theorem exD_words : ∀ (k : Nat) (hk : k < exD.length), exD[k].s.size ≤ 9223372036854775807 := by decide
theorem rows_ex (w' : World) (A : Option Addr) (hr : RdT w' w'.heap.size A exD) : Calls Tryz.prog 18 #[.agg #[.int .i64 4, .slice A exD.length 3]] w' fun e w'' => ∃ B c, e = .returned (.tuple #[.slice B exR.length c, .int .i64 0]) ∧ RdG w'' w''.heap.size B exR ∧ Below w'.heap.size w' w'' := by
  have ok := okD_of exD_sheet
  refine (drows_any 4 A exD 3 w' _ hr (Nat.le_refl _) exD_words ok.chk ok.p2 ok.p24 ok.bd ok.len).mono ?_
  rintro e w'' ⟨v, vs, rfl, hG, hB⟩
  rw [show rowsS 4 exD = exR from exD_rows] at hG
  obtain ⟨B, c, rfl, _, hR⟩ := hG.rd
  exact ⟨B, c, rfl, hR, hB⟩
theorem draw_ex (w' : World) (A : Option Addr) (hr : RdT w' w'.heap.size A exD) (hDt : DtAt w') : Calls Tryz.prog 14 #[.agg #[.int .i64 4, .slice A exD.length 3]] w' (Ret (.tuple #[.string (bN exT), .int .i64 0]) w') := by
  have := draw_any 4 A exD 3 w' _ hr (Nat.le_refl _) exD_words (okD_of exD_sheet) hDt
  rw [exD_draw] at this
  exact this
theorem read_ex (w' : World) (hDt : DtAt w') : Calls Tryz.prog 11 #[.string (bN exT)] w' fun e w'' => ∃ B c, e = .returned (.tuple #[.agg #[.int .i64 4, .slice B exD.length c], .int .i64 0, .int .i64 0]) ∧ RdT w'' w''.heap.size B exD ∧ Below w'.heap.size w' w'' := by
  refine (read_any exT (by decide) w' hDt).mono ?_
  rw [exD_read]
  rintro e w'' ⟨hB, v, rfl, ho⟩
  obtain ⟨B, c, rfl, _, hr⟩ := Own.rd tri_len ho
  exact ⟨B, c, rfl, hr, hB⟩
theorem rdG_more {w : World} {H H' : Nat} {A : Option Addr} {R : List (List Nat)} (h : RdG w H A R) (hH : H ≤ H') : RdG w H' A R := fun hne => by
  obtain ⟨b, o, e, hb, hc⟩ := h hne
  refine ⟨b, o, e, by omega, fun k hk => ?_⟩
  obtain ⟨Ak, ck, h1, h2⟩ := hc k hk
  exact ⟨Ak, ck, h1, h2.more hH⟩
theorem rdG_ex {w : World} {g1 g2 g3 : Nat} {t1 t2 t3 : TypeId} (h1 : Blk w g1 t1 #[.int .i64 0, .int .i64 1]) (h2 : Blk w g2 t2 #[.int .i64 2]) (h3 : Blk w g3 t3 #[.slice (some ⟨g1, 0, none⟩) 2 2, .slice (some ⟨g2, 0, none⟩) 1 1]) : RdG w w.heap.size (some ⟨g3, 0, none⟩) exR := fun _ => by
  refine ⟨g3, 0, rfl, h3.lt, fun k hk => ?_⟩
  have hc : k = 0 ∨ k = 1 := by have : exR.length = 2 := rfl; omega
  rcases hc with rfl | rfl
  · refine ⟨some ⟨g1, 0, none⟩, 2, h3.cell 0 _ rfl, fun _ => ⟨g1, 0, rfl, h1.lt, fun i x hx j u hu => ?_⟩⟩
    have hi : i < 2 := (List.getElem?_eq_some_iff.1 hx).1
    have hj : j < 1 := (List.getElem?_eq_some_iff.1 hu).1
    obtain rfl : 0 = j := by omega
    have hcc : i = 0 ∨ i = 1 := by omega
    rcases hcc with rfl | rfl <;> (cases hx; cases hu; exact h1.cell _ _ rfl)
  · refine ⟨some ⟨g2, 0, none⟩, 1, h3.cell 1 _ rfl, fun _ => ⟨g2, 0, rfl, h2.lt, fun i x hx j u hu => ?_⟩⟩
    have hi : i < 1 := (List.getElem?_eq_some_iff.1 hx).1
    have hj : j < 1 := (List.getElem?_eq_some_iff.1 hu).1
    obtain rfl : 0 = j := by omega
    obtain rfl : 0 = i := by omega
    cases hx; cases hu; exact h2.cell _ _ rfl
theorem rows_same (A B : Option Addr) (c d : Nat) (w : World) (H : Nat) (ha : RdG w H A exR) (hb : RdG w H B exR) (hH : H ≤ w.heap.size) :
    Calls Tryz.prog 28 #[.slice A exR.length c, .slice B exR.length d] w (Ret (.bool true) w) := by
  have := rowsEq_any A B exR exR c d w H (by decide) (by decide) (by decide) ha hb hH
  rw [show decide (exR = exR) = true from rfl] at this
  exact this
theorem sheet_same (A B : Option Addr) (c d : Nat) (w : World) (H : Nat) (ha : RdT w H A exD) (hb : RdT w H B exD) (hH : H ≤ w.heap.size) :
    Calls Tryz.prog 13 #[.agg #[.int .i64 4, .slice A exD.length c], .agg #[.int .i64 4, .slice B exD.length d]] w (Ret (.bool true) w) := by
  have := same14_any A B exD exD 4 4 c d w H (by decide) ha hb hH
  rw [show decide ((4 : Int) = 4 ∧ exD = exD) = true by simp] at this
  exact this
set_option maxRecDepth 100000 in
set_option maxHeartbeats 4000000 in
theorem shown_any (w : World) (hDt : DtAt w) : Calls Tryz.prog 10 #[] w (Ret (.bool true) w) := by
  go_enter Tryz.func10, Tryz.ntmps10
  have tk1 : True := trivial
  go_wp2_with (first
    | (go_at_call 25; have := tk1; refine (example_any w).mono ?_; rintro e w1 ⟨A1, rfl, hr1, hB1⟩; clear tk1)
    | (go_at_call 18; refine (rows_ex w1 A1 hr1).mono ?_; rintro e w2 ⟨B, cB, rfl, hRG, hB2⟩
       have hB2' := hB1.trans (hB2.mono hB1.size))
    | (go_at_call 25; refine (example_any w2).mono ?_; rintro e w3 ⟨A3, rfl, hr3, hB3⟩
       have hB3' := hB2'.trans (hB3.mono hB2'.size))
    | (go_at_call 14; refine (draw_ex w3 A3 hr3 (hDt.below hB3')).mono ?_; rintro e w4 ⟨rfl, hB4⟩
       have hB4' := hB3'.trans (hB4.mono hB3'.size))
    | (go_at_call 31; refine (text_any w4).mono ?_; rintro e w5 ⟨rfl, hB5⟩
       have hB5' := hB4'.trans (hB5.mono hB4'.size))
    | (go_at_call 11; refine (read_ex w5 (hDt.below hB5')).mono ?_; rintro e w6 ⟨B6, c6, rfl, hr6, hB6⟩
       have hB6' := hB5'.trans (hB6.mono hB5'.size)
       have hB26 : Below w2.heap.size w2 w6 := ((hB3.trans (hB4.mono hB3.size)).trans (hB5.mono (Nat.le_trans hB3.size hB4.size))).trans (hB6.mono (Nat.le_trans (Nat.le_trans hB3.size hB4.size) hB5.size)))
    | fail)
  obtain ⟨wT, hwT⟩ : ∃ wT, Hid (w6.alloc (.cells #[.int .i64 4, .slice B6 exD.length c6] 25) = wT) := ⟨_, Lib.hid rfl⟩
  have kT0 : Blk wT w6.heap.size 25 #[.int .i64 4, .slice B6 exD.length c6] := by rw [← hwT.out]; exact Blk.new w6 _ _
  have hBT0 : Below w6.heap.size w6 wT := by rw [← hwT.out]; exact (Below.refl _ _).alloc (Nat.le_refl _) _
  rw [hwT.out]
  have kT : Blk wT.drew w6.heap.size 25 #[.int .i64 4, .slice B6 exD.length c6] := kT0
  have hBT : Below w6.heap.size w6 wT.drew := hBT0.drew
  have hzT := hBT.size
  have tT := bN_toList exT
  clear hwT kT0 hBT0
  have hS1 : wT.drew.cell? ⟨w6.heap.size, 0, none⟩ = some (.int .i64 4) ∧ wT.drew.cell? ⟨w6.heap.size, 1, none⟩ = some (.slice B6 exD.length c6) := ⟨kT.cell 0 _ rfl, kT.cell 1 _ rfl⟩
  refine wp_region_J (fun w' => w'.cell? ⟨w6.heap.size, 0, none⟩ = some (.int .i64 4) ∧ w'.cell? ⟨w6.heap.size, 1, none⟩ = some (.slice B6 exD.length c6)) (fun _ => True) (fun _ => false) (by kernel_rfl) ?_
  generalize wT.drew = wS at *
  refine wpAnyJ_take1 0 rfl (by kernel_rfl) (by kernel_rfl) rfl (by kernel_rfl) (fun _ _ _ h => h) (by rfl) hS1 (fun w' hSw => (by obtain ⟨z1, z2⟩ := hSw; go_simp; try (with_reducible rfl))) ?_
  try simp only [Act.put, List.getElem_toArray, List.getElem_cons_succ, List.getElem_cons_zero, List.setIfInBounds_toArray, List.set_cons_zero, List.set_cons_succ]
  refine wpAnyJ_ready [1, 2] (by kernel_rfl) (by simp) (NextJ.cons rfl (fun K hK => ?_) (NextJ.cons rfl (fun K hK => ?_) NextJ.nil))
  · skip
    go_simp
    obtain ⟨wa, hwa⟩ : ∃ wa, Hid (wS.alloc (.cells #[.int .i64 0, .int .i64 1] 3) = wa) := ⟨_, Lib.hid rfl⟩
    have ka : Blk wa wS.heap.size 3 #[.int .i64 0, .int .i64 1] := by rw [← hwa.out]; exact Blk.new wS _ _
    have hBa : Below wS.heap.size wS wa := by rw [← hwa.out]; exact (Below.refl _ _).alloc (Nat.le_refl _) _
    have hza : wa.heap.size = wS.heap.size + 1 := by rw [← hwa.out]; simp
    have kTa := kT.below' hBa
    rw [hwa.out]
    refine hK.out _ _ ⟨kTa.cell 0 _ rfl, kTa.cell 1 _ rfl⟩ (fun _ => trivial) ?_
    clear hK K
    try simp only [Act.put, List.getElem_toArray, List.getElem_cons_succ, List.getElem_cons_zero, List.setIfInBounds_toArray, List.set_cons_zero, List.set_cons_succ]
    refine wpAnyJ_ready [2] (by kernel_rfl) (by simp) (NextJ.cons rfl (fun K hK => ?_) NextJ.nil)
    go_simp
    obtain ⟨wb, hwb⟩ : ∃ wb, Hid (wa.alloc (.cells #[.int .i64 2] 3) = wb) := ⟨_, Lib.hid rfl⟩
    have kb : Blk wb (wS.heap.size + 1) 3 #[.int .i64 2] := by rw [← hwb.out, ← hza]; exact Blk.new wa _ _
    have hBb : Below wa.heap.size wa wb := by rw [← hwb.out]; exact (Below.refl _ _).alloc (Nat.le_refl _) _
    have hzb : wb.heap.size = wa.heap.size + 1 := by rw [← hwb.out]; simp
    have kTb := kTa.below' hBb
    have ka2 := ka.below' hBb
    rw [hwb.out]
    refine hK.out _ _ ⟨kTb.cell 0 _ rfl, kTb.cell 1 _ rfl⟩ (fun _ => trivial) ?_
    clear hK K
    try simp only [Act.put, List.getElem_toArray, List.getElem_cons_succ, List.getElem_cons_zero, List.setIfInBounds_toArray, List.set_cons_zero, List.set_cons_succ]
    refine wpAnyJ_ready [3] (by kernel_rfl) (by simp) (NextJ.cons rfl (fun K hK => ?_) NextJ.nil)
    go_simp
    obtain ⟨wc, hwc⟩ : ∃ wc, Hid (wb.alloc (.cells #[.slice (some ⟨wS.heap.size, 0, none⟩) 2 2, .slice (some ⟨wS.heap.size + 1, 0, none⟩) 1 1] 45) = wc) := ⟨_, Lib.hid rfl⟩
    have kc : Blk wc (wS.heap.size + 1 + 1) 45 #[.slice (some ⟨wS.heap.size, 0, none⟩) 2 2, .slice (some ⟨wS.heap.size + 1, 0, none⟩) 1 1] := by rw [← hwc.out, show wS.heap.size + 1 + 1 = wb.heap.size from by omega]; exact Blk.new wb _ _
    have hBc : Below wb.heap.size wb wc := by rw [← hwc.out]; exact (Below.refl _ _).alloc (Nat.le_refl _) _
    have kTc := kTb.below' hBc
    have hRX := rdG_ex (ka2.below' hBc) (kb.below' hBc) kc
    have hBSc : Below wS.heap.size wS wc := (hBa.trans (hBb.mono (by omega))).trans (hBc.mono (by omega))
    have hB2c : Below w2.heap.size w2 wc := (hB26.trans (hBT.mono hB26.size)).trans (hBSc.mono (Nat.le_trans hB26.size hzT))
    rw [hwc.out]
    refine hK.out _ _ ⟨kTc.cell 0 _ rfl, kTc.cell 1 _ rfl⟩ (fun _ => trivial) ?_
    clear hK K
    try simp only [Act.put, List.getElem_toArray, List.getElem_cons_succ, List.getElem_cons_zero, List.setIfInBounds_toArray, List.set_cons_zero, List.set_cons_succ]
    refine wpAnyJ_ready [4] (by kernel_rfl) (by simp) (NextJ.cons rfl (fun K hK => ?_) NextJ.nil)
    go_simp
    refine (rows_same B (some ⟨wS.heap.size + 1 + 1, 0, none⟩) cB 2 wc wc.heap.size (rdG_more (hRG.below hB2c) hB2c.size) hRX (Nat.le_refl _)).mono ?_
    rintro e wd ⟨rfl, hBd⟩
    have kTd := kTc.below' hBd
    go_simp
    refine hK.out _ _ ⟨kTd.cell 0 _ rfl, kTd.cell 1 _ rfl⟩ (fun _ => trivial) ?_
    clear hK K
    try simp only [Act.put, List.getElem_toArray, List.getElem_cons_succ, List.getElem_cons_zero, List.setIfInBounds_toArray, List.set_cons_zero, List.set_cons_succ]
    have hSd := (⟨kTd.cell 0 _ rfl, kTd.cell 1 _ rfl⟩ : wd.cell? ⟨w6.heap.size, 0, none⟩ = some (.int .i64 4) ∧ wd.cell? ⟨w6.heap.size, 1, none⟩ = some (.slice B6 exD.length c6))
    refine wpAnyJ_take1 5 rfl (by kernel_rfl) (by kernel_rfl) rfl (by kernel_rfl) (fun _ _ _ h => h) (by rfl) hSd (fun w' hSw => (by obtain ⟨z1, z2⟩ := hSw; go_simp; try (with_reducible rfl))) ?_
    try simp only [Act.put, List.getElem_toArray, List.getElem_cons_succ, List.getElem_cons_zero, List.setIfInBounds_toArray, List.set_cons_zero, List.set_cons_succ]
    refine wpAnyJ_take1 6 rfl (by kernel_rfl) (by kernel_rfl) rfl (by kernel_rfl) (fun _ _ _ h => h) (by rfl) hSd (fun w' hSw => (by obtain ⟨z1, z2⟩ := hSw; go_simp; try (with_reducible rfl))) ?_
    try simp only [Act.put, List.getElem_toArray, List.getElem_cons_succ, List.getElem_cons_zero, List.setIfInBounds_toArray, List.set_cons_zero, List.set_cons_succ]
    refine wpAnyJ_ready [7] (by kernel_rfl) (by simp) (NextJ.cons rfl (fun K hK => ?_) NextJ.nil)
    go_simp
    refine (text_any wd).mono ?_
    rintro e we ⟨rfl, hBe⟩
    have kTe := kTd.below' hBe
    go_simp
    refine hK.out _ _ ⟨kTe.cell 0 _ rfl, kTe.cell 1 _ rfl⟩ (fun _ => trivial) ?_
    clear hK K
    try simp only [Act.put, List.getElem_toArray, List.getElem_cons_succ, List.getElem_cons_zero, List.setIfInBounds_toArray, List.set_cons_zero, List.set_cons_succ]
    have hSe := (⟨kTe.cell 0 _ rfl, kTe.cell 1 _ rfl⟩ : we.cell? ⟨w6.heap.size, 0, none⟩ = some (.int .i64 4) ∧ we.cell? ⟨w6.heap.size, 1, none⟩ = some (.slice B6 exD.length c6))
    refine wpAnyJ_take1 8 rfl (by kernel_rfl) (by kernel_rfl) rfl (by kernel_rfl) (fun _ _ _ h => h) (by rfl) hSe (fun w' hSw => (by obtain ⟨z1, z2⟩ := hSw; go_simp; try (with_reducible rfl))) ?_
    try simp only [Act.put, List.getElem_toArray, List.getElem_cons_succ, List.getElem_cons_zero, List.setIfInBounds_toArray, List.set_cons_zero, List.set_cons_succ]
    refine wpAnyJ_take1 9 rfl (by kernel_rfl) (by kernel_rfl) rfl (by kernel_rfl) (fun _ _ _ h => h) (by rfl) hSe (fun w' hSw => (by obtain ⟨z1, z2⟩ := hSw; go_simp; try (with_reducible rfl))) ?_
    try simp only [Act.put, List.getElem_toArray, List.getElem_cons_succ, List.getElem_cons_zero, List.setIfInBounds_toArray, List.set_cons_zero, List.set_cons_succ]
    refine wpAnyJ_take1 10 rfl (by kernel_rfl) (by kernel_rfl) rfl (by kernel_rfl) (fun _ _ _ h => h) (by rfl) hSe (fun w' hSw => (by obtain ⟨z1, z2⟩ := hSw; go_simp; try (with_reducible rfl))) ?_
    try simp only [Act.put, List.getElem_toArray, List.getElem_cons_succ, List.getElem_cons_zero, List.setIfInBounds_toArray, List.set_cons_zero, List.set_cons_succ]
    refine wpAnyJ_take1 11 rfl (by kernel_rfl) (by kernel_rfl) rfl (by kernel_rfl) (fun _ _ _ h => h) (by rfl) hSe (fun w' hSw => (by obtain ⟨z1, z2⟩ := hSw; go_simp; try (with_reducible rfl))) ?_
    try simp only [Act.put, List.getElem_toArray, List.getElem_cons_succ, List.getElem_cons_zero, List.setIfInBounds_toArray, List.set_cons_zero, List.set_cons_succ]
    refine wpAnyJ_take1 12 rfl (by kernel_rfl) (by kernel_rfl) rfl (by kernel_rfl) (fun _ _ _ h => h) (by rfl) hSe (fun w' hSw => (by obtain ⟨z1, z2⟩ := hSw; go_simp; try (with_reducible rfl))) ?_
    try simp only [Act.put, List.getElem_toArray, List.getElem_cons_succ, List.getElem_cons_zero, List.setIfInBounds_toArray, List.set_cons_zero, List.set_cons_succ]
    refine wpAnyJ_take1 13 rfl (by kernel_rfl) (by kernel_rfl) rfl (by kernel_rfl) (fun _ _ _ h => h) (by rfl) hSe (fun w' hSw => (by obtain ⟨z1, z2⟩ := hSw; go_simp; try (with_reducible rfl))) ?_
    try simp only [Act.put, List.getElem_toArray, List.getElem_cons_succ, List.getElem_cons_zero, List.setIfInBounds_toArray, List.set_cons_zero, List.set_cons_succ]
    refine wpAnyJ_take1 14 rfl (by kernel_rfl) (by kernel_rfl) rfl (by kernel_rfl) (fun _ _ _ h => h) (by rfl) hSe (fun w' hSw => (by obtain ⟨z1, z2⟩ := hSw; go_simp; try (with_reducible rfl))) ?_
    try simp only [Act.put, List.getElem_toArray, List.getElem_cons_succ, List.getElem_cons_zero, List.setIfInBounds_toArray, List.set_cons_zero, List.set_cons_succ]
    refine wpAnyJ_take1 15 rfl (by kernel_rfl) (by kernel_rfl) rfl (by kernel_rfl) (fun _ _ _ h => h) (by rfl) hSe (fun w' hSw => (by obtain ⟨z1, z2⟩ := hSw; go_simp; try (with_reducible rfl))) ?_
    try simp only [Act.put, List.getElem_toArray, List.getElem_cons_succ, List.getElem_cons_zero, List.setIfInBounds_toArray, List.set_cons_zero, List.set_cons_succ]
    refine wpAnyJ_take1 16 rfl (by kernel_rfl) (by kernel_rfl) rfl (by kernel_rfl) (fun _ _ _ h => h) (by rfl) hSe (fun w' hSw => (by obtain ⟨z1, z2⟩ := hSw; go_simp; try (with_reducible rfl))) ?_
    try simp only [Act.put, List.getElem_toArray, List.getElem_cons_succ, List.getElem_cons_zero, List.setIfInBounds_toArray, List.set_cons_zero, List.set_cons_succ]
    refine wpAnyJ_take1 17 rfl (by kernel_rfl) (by kernel_rfl) rfl (by kernel_rfl) (fun _ _ _ h => h) (by rfl) hSe (fun w' hSw => (by obtain ⟨z1, z2⟩ := hSw; go_simp; try (with_reducible rfl))) ?_
    try simp only [Act.put, List.getElem_toArray, List.getElem_cons_succ, List.getElem_cons_zero, List.setIfInBounds_toArray, List.set_cons_zero, List.set_cons_succ]
    refine wpAnyJ_take1 18 rfl (by kernel_rfl) (by kernel_rfl) rfl (by kernel_rfl) (fun _ _ _ h => h) (by rfl) hSe (fun w' hSw => (by obtain ⟨z1, z2⟩ := hSw; go_simp; try (with_reducible rfl))) ?_
    try simp only [Act.put, List.getElem_toArray, List.getElem_cons_succ, List.getElem_cons_zero, List.setIfInBounds_toArray, List.set_cons_zero, List.set_cons_succ]
    refine wpAnyJ_take1 19 rfl (by kernel_rfl) (by kernel_rfl) rfl (by kernel_rfl) (fun _ _ _ h => h) (by rfl) hSe (fun w' hSw => (by obtain ⟨z1, z2⟩ := hSw; go_simp; try (with_reducible rfl))) ?_
    try simp only [Act.put, List.getElem_toArray, List.getElem_cons_succ, List.getElem_cons_zero, List.setIfInBounds_toArray, List.set_cons_zero, List.set_cons_succ]
    refine wpAnyJ_take1 20 rfl (by kernel_rfl) (by kernel_rfl) rfl (by kernel_rfl) (fun _ _ _ h => h) (by rfl) hSe (fun w' hSw => (by obtain ⟨z1, z2⟩ := hSw; go_simp; try (with_reducible rfl))) ?_
    try simp only [Act.put, List.getElem_toArray, List.getElem_cons_succ, List.getElem_cons_zero, List.setIfInBounds_toArray, List.set_cons_zero, List.set_cons_succ]
    refine wpAnyJ_take1 21 rfl (by kernel_rfl) (by kernel_rfl) rfl (by kernel_rfl) (fun _ _ _ h => h) (by rfl) hSe (fun w' hSw => (by obtain ⟨z1, z2⟩ := hSw; go_simp; try (with_reducible rfl))) ?_
    try simp only [Act.put, List.getElem_toArray, List.getElem_cons_succ, List.getElem_cons_zero, List.setIfInBounds_toArray, List.set_cons_zero, List.set_cons_succ]
    refine wpAnyJ_take1 22 rfl (by kernel_rfl) (by kernel_rfl) rfl (by kernel_rfl) (fun _ _ _ h => h) (by rfl) hSe (fun w' hSw => (by obtain ⟨z1, z2⟩ := hSw; go_simp; try (with_reducible rfl))) ?_
    try simp only [Act.put, List.getElem_toArray, List.getElem_cons_succ, List.getElem_cons_zero, List.setIfInBounds_toArray, List.set_cons_zero, List.set_cons_succ]
    refine wpAnyJ_take1 23 rfl (by kernel_rfl) (by kernel_rfl) rfl (by kernel_rfl) (fun _ _ _ h => h) (by rfl) hSe (fun w' hSw => (by obtain ⟨z1, z2⟩ := hSw; go_simp; try (with_reducible rfl))) ?_
    try simp only [Act.put, List.getElem_toArray, List.getElem_cons_succ, List.getElem_cons_zero, List.setIfInBounds_toArray, List.set_cons_zero, List.set_cons_succ]
    refine wpAnyJ_take1 24 rfl (by kernel_rfl) (by kernel_rfl) rfl (by kernel_rfl) (fun _ _ _ h => h) (by rfl) hSe (fun w' hSw => (by obtain ⟨z1, z2⟩ := hSw; go_simp; try (with_reducible rfl))) ?_
    try simp only [Act.put, List.getElem_toArray, List.getElem_cons_succ, List.getElem_cons_zero, List.setIfInBounds_toArray, List.set_cons_zero, List.set_cons_succ]
    refine wpAnyJ_take1 25 rfl (by kernel_rfl) (by kernel_rfl) rfl (by kernel_rfl) (fun _ _ _ h => h) (by rfl) hSe (fun w' hSw => (by obtain ⟨z1, z2⟩ := hSw; go_simp; try (with_reducible rfl))) ?_
    try simp only [Act.put, List.getElem_toArray, List.getElem_cons_succ, List.getElem_cons_zero, List.setIfInBounds_toArray, List.set_cons_zero, List.set_cons_succ]
    refine wpAnyJ_take1 26 rfl (by kernel_rfl) (by kernel_rfl) rfl (by kernel_rfl) (fun _ _ _ h => h) (by rfl) hSe (fun w' hSw => (by obtain ⟨z1, z2⟩ := hSw; go_simp; try (with_reducible rfl))) ?_
    try simp only [Act.put, List.getElem_toArray, List.getElem_cons_succ, List.getElem_cons_zero, List.setIfInBounds_toArray, List.set_cons_zero, List.set_cons_succ]
    refine wpAnyJ_take1 27 rfl (by kernel_rfl) (by kernel_rfl) rfl (by kernel_rfl) (fun _ _ _ h => h) (by rfl) hSe (fun w' hSw => (by obtain ⟨z1, z2⟩ := hSw; go_simp; try (with_reducible rfl))) ?_
    try simp only [Act.put, List.getElem_toArray, List.getElem_cons_succ, List.getElem_cons_zero, List.setIfInBounds_toArray, List.set_cons_zero, List.set_cons_succ]
    refine wpAnyJ_ready [28] (by kernel_rfl) (by simp) (NextJ.cons rfl (fun K hK => ?_) NextJ.nil)
    go_simp
    refine (example_any we).mono ?_
    rintro e wf ⟨Af, rfl, hrf, hBf⟩
    have kTf := kTe.below' hBf
    have hBSf : Below wS.heap.size wS wf := ((hBSc.trans (hBd.mono hBSc.size)).trans (hBe.mono (Nat.le_trans hBSc.size hBd.size))).trans (hBf.mono (Nat.le_trans (Nat.le_trans hBSc.size hBd.size) hBe.size))
    have hB6f : Below w6.heap.size w6 wf := hBT.trans (hBSf.mono hzT)
    go_simp
    refine hK.out _ _ ⟨kTf.cell 0 _ rfl, kTf.cell 1 _ rfl⟩ (fun _ => trivial) ?_
    clear hK K
    try simp only [Act.put, List.getElem_toArray, List.getElem_cons_succ, List.getElem_cons_zero, List.setIfInBounds_toArray, List.set_cons_zero, List.set_cons_succ]
    refine wpAnyJ_ready [29] (by kernel_rfl) (by simp) (NextJ.cons rfl (fun K hK => ?_) NextJ.nil)
    go_simp
    refine (sheet_same B6 Af c6 3 wf wf.heap.size ((hr6.below hB6f).more hB6f.size) hrf (Nat.le_refl _)).mono ?_
    rintro e wg ⟨rfl, hBg⟩
    have kTg := kTf.below' hBg
    go_simp
    refine hK.out _ _ ⟨kTg.cell 0 _ rfl, kTg.cell 1 _ rfl⟩ (fun _ => trivial) ?_
    clear hK K
    try simp only [Act.put, List.getElem_toArray, List.getElem_cons_succ, List.getElem_cons_zero, List.setIfInBounds_toArray, List.set_cons_zero, List.set_cons_succ]
    have hSg := (⟨kTg.cell 0 _ rfl, kTg.cell 1 _ rfl⟩ : wg.cell? ⟨w6.heap.size, 0, none⟩ = some (.int .i64 4) ∧ wg.cell? ⟨w6.heap.size, 1, none⟩ = some (.slice B6 exD.length c6))
    refine wpAnyJ_take1 30 rfl (by kernel_rfl) (by kernel_rfl) rfl (by kernel_rfl) (fun _ _ _ h => h) (by rfl) hSg (fun w' hSw => (by obtain ⟨z1, z2⟩ := hSw; go_simp; try (with_reducible rfl))) ?_
    try simp only [Act.put, List.getElem_toArray, List.getElem_cons_succ, List.getElem_cons_zero, List.setIfInBounds_toArray, List.set_cons_zero, List.set_cons_succ]
    refine wpAnyJ_take1 31 rfl (by kernel_rfl) (by kernel_rfl) rfl (by kernel_rfl) (fun _ _ _ h => h) (by rfl) hSg (fun w' hSw => (by obtain ⟨z1, z2⟩ := hSw; go_simp; try (with_reducible rfl))) ?_
    try simp only [Act.put, List.getElem_toArray, List.getElem_cons_succ, List.getElem_cons_zero, List.setIfInBounds_toArray, List.set_cons_zero, List.set_cons_succ]
    refine wpAnyJ_done (by kernel_rfl) ?_ _
    go_wp2_with fail
    go_ret
    exact ⟨rfl, (hB6'.trans (hB6f.mono hB6'.size)).trans (hBg.mono (Nat.le_trans hB6'.size hB6f.size))⟩
  · skip
    go_simp
    obtain ⟨wa, hwa⟩ : ∃ wa, Hid (wS.alloc (.cells #[.int .i64 2] 3) = wa) := ⟨_, Lib.hid rfl⟩
    have ka : Blk wa wS.heap.size 3 #[.int .i64 2] := by rw [← hwa.out]; exact Blk.new wS _ _
    have hBa : Below wS.heap.size wS wa := by rw [← hwa.out]; exact (Below.refl _ _).alloc (Nat.le_refl _) _
    have hza : wa.heap.size = wS.heap.size + 1 := by rw [← hwa.out]; simp
    have kTa := kT.below' hBa
    rw [hwa.out]
    refine hK.out _ _ ⟨kTa.cell 0 _ rfl, kTa.cell 1 _ rfl⟩ (fun _ => trivial) ?_
    clear hK K
    try simp only [Act.put, List.getElem_toArray, List.getElem_cons_succ, List.getElem_cons_zero, List.setIfInBounds_toArray, List.set_cons_zero, List.set_cons_succ]
    refine wpAnyJ_ready [1] (by kernel_rfl) (by simp) (NextJ.cons rfl (fun K hK => ?_) NextJ.nil)
    go_simp
    obtain ⟨wb, hwb⟩ : ∃ wb, Hid (wa.alloc (.cells #[.int .i64 0, .int .i64 1] 3) = wb) := ⟨_, Lib.hid rfl⟩
    have kb : Blk wb (wS.heap.size + 1) 3 #[.int .i64 0, .int .i64 1] := by rw [← hwb.out, ← hza]; exact Blk.new wa _ _
    have hBb : Below wa.heap.size wa wb := by rw [← hwb.out]; exact (Below.refl _ _).alloc (Nat.le_refl _) _
    have hzb : wb.heap.size = wa.heap.size + 1 := by rw [← hwb.out]; simp
    have kTb := kTa.below' hBb
    have ka2 := ka.below' hBb
    rw [hwb.out]
    refine hK.out _ _ ⟨kTb.cell 0 _ rfl, kTb.cell 1 _ rfl⟩ (fun _ => trivial) ?_
    clear hK K
    try simp only [Act.put, List.getElem_toArray, List.getElem_cons_succ, List.getElem_cons_zero, List.setIfInBounds_toArray, List.set_cons_zero, List.set_cons_succ]
    refine wpAnyJ_ready [3] (by kernel_rfl) (by simp) (NextJ.cons rfl (fun K hK => ?_) NextJ.nil)
    go_simp
    obtain ⟨wc, hwc⟩ : ∃ wc, Hid (wb.alloc (.cells #[.slice (some ⟨wS.heap.size + 1, 0, none⟩) 2 2, .slice (some ⟨wS.heap.size, 0, none⟩) 1 1] 45) = wc) := ⟨_, Lib.hid rfl⟩
    have kc : Blk wc (wS.heap.size + 1 + 1) 45 #[.slice (some ⟨wS.heap.size + 1, 0, none⟩) 2 2, .slice (some ⟨wS.heap.size, 0, none⟩) 1 1] := by rw [← hwc.out, show wS.heap.size + 1 + 1 = wb.heap.size from by omega]; exact Blk.new wb _ _
    have hBc : Below wb.heap.size wb wc := by rw [← hwc.out]; exact (Below.refl _ _).alloc (Nat.le_refl _) _
    have kTc := kTb.below' hBc
    have hRX := rdG_ex (kb.below' hBc) (ka2.below' hBc) kc
    have hBSc : Below wS.heap.size wS wc := (hBa.trans (hBb.mono (by omega))).trans (hBc.mono (by omega))
    have hB2c : Below w2.heap.size w2 wc := (hB26.trans (hBT.mono hB26.size)).trans (hBSc.mono (Nat.le_trans hB26.size hzT))
    rw [hwc.out]
    refine hK.out _ _ ⟨kTc.cell 0 _ rfl, kTc.cell 1 _ rfl⟩ (fun _ => trivial) ?_
    clear hK K
    try simp only [Act.put, List.getElem_toArray, List.getElem_cons_succ, List.getElem_cons_zero, List.setIfInBounds_toArray, List.set_cons_zero, List.set_cons_succ]
    refine wpAnyJ_ready [4] (by kernel_rfl) (by simp) (NextJ.cons rfl (fun K hK => ?_) NextJ.nil)
    go_simp
    refine (rows_same B (some ⟨wS.heap.size + 1 + 1, 0, none⟩) cB 2 wc wc.heap.size (rdG_more (hRG.below hB2c) hB2c.size) hRX (Nat.le_refl _)).mono ?_
    rintro e wd ⟨rfl, hBd⟩
    have kTd := kTc.below' hBd
    go_simp
    refine hK.out _ _ ⟨kTd.cell 0 _ rfl, kTd.cell 1 _ rfl⟩ (fun _ => trivial) ?_
    clear hK K
    try simp only [Act.put, List.getElem_toArray, List.getElem_cons_succ, List.getElem_cons_zero, List.setIfInBounds_toArray, List.set_cons_zero, List.set_cons_succ]
    have hSd := (⟨kTd.cell 0 _ rfl, kTd.cell 1 _ rfl⟩ : wd.cell? ⟨w6.heap.size, 0, none⟩ = some (.int .i64 4) ∧ wd.cell? ⟨w6.heap.size, 1, none⟩ = some (.slice B6 exD.length c6))
    refine wpAnyJ_take1 5 rfl (by kernel_rfl) (by kernel_rfl) rfl (by kernel_rfl) (fun _ _ _ h => h) (by rfl) hSd (fun w' hSw => (by obtain ⟨z1, z2⟩ := hSw; go_simp; try (with_reducible rfl))) ?_
    try simp only [Act.put, List.getElem_toArray, List.getElem_cons_succ, List.getElem_cons_zero, List.setIfInBounds_toArray, List.set_cons_zero, List.set_cons_succ]
    refine wpAnyJ_take1 6 rfl (by kernel_rfl) (by kernel_rfl) rfl (by kernel_rfl) (fun _ _ _ h => h) (by rfl) hSd (fun w' hSw => (by obtain ⟨z1, z2⟩ := hSw; go_simp; try (with_reducible rfl))) ?_
    try simp only [Act.put, List.getElem_toArray, List.getElem_cons_succ, List.getElem_cons_zero, List.setIfInBounds_toArray, List.set_cons_zero, List.set_cons_succ]
    refine wpAnyJ_ready [7] (by kernel_rfl) (by simp) (NextJ.cons rfl (fun K hK => ?_) NextJ.nil)
    go_simp
    refine (text_any wd).mono ?_
    rintro e we ⟨rfl, hBe⟩
    have kTe := kTd.below' hBe
    go_simp
    refine hK.out _ _ ⟨kTe.cell 0 _ rfl, kTe.cell 1 _ rfl⟩ (fun _ => trivial) ?_
    clear hK K
    try simp only [Act.put, List.getElem_toArray, List.getElem_cons_succ, List.getElem_cons_zero, List.setIfInBounds_toArray, List.set_cons_zero, List.set_cons_succ]
    have hSe := (⟨kTe.cell 0 _ rfl, kTe.cell 1 _ rfl⟩ : we.cell? ⟨w6.heap.size, 0, none⟩ = some (.int .i64 4) ∧ we.cell? ⟨w6.heap.size, 1, none⟩ = some (.slice B6 exD.length c6))
    refine wpAnyJ_take1 8 rfl (by kernel_rfl) (by kernel_rfl) rfl (by kernel_rfl) (fun _ _ _ h => h) (by rfl) hSe (fun w' hSw => (by obtain ⟨z1, z2⟩ := hSw; go_simp; try (with_reducible rfl))) ?_
    try simp only [Act.put, List.getElem_toArray, List.getElem_cons_succ, List.getElem_cons_zero, List.setIfInBounds_toArray, List.set_cons_zero, List.set_cons_succ]
    refine wpAnyJ_take1 9 rfl (by kernel_rfl) (by kernel_rfl) rfl (by kernel_rfl) (fun _ _ _ h => h) (by rfl) hSe (fun w' hSw => (by obtain ⟨z1, z2⟩ := hSw; go_simp; try (with_reducible rfl))) ?_
    try simp only [Act.put, List.getElem_toArray, List.getElem_cons_succ, List.getElem_cons_zero, List.setIfInBounds_toArray, List.set_cons_zero, List.set_cons_succ]
    refine wpAnyJ_take1 10 rfl (by kernel_rfl) (by kernel_rfl) rfl (by kernel_rfl) (fun _ _ _ h => h) (by rfl) hSe (fun w' hSw => (by obtain ⟨z1, z2⟩ := hSw; go_simp; try (with_reducible rfl))) ?_
    try simp only [Act.put, List.getElem_toArray, List.getElem_cons_succ, List.getElem_cons_zero, List.setIfInBounds_toArray, List.set_cons_zero, List.set_cons_succ]
    refine wpAnyJ_take1 11 rfl (by kernel_rfl) (by kernel_rfl) rfl (by kernel_rfl) (fun _ _ _ h => h) (by rfl) hSe (fun w' hSw => (by obtain ⟨z1, z2⟩ := hSw; go_simp; try (with_reducible rfl))) ?_
    try simp only [Act.put, List.getElem_toArray, List.getElem_cons_succ, List.getElem_cons_zero, List.setIfInBounds_toArray, List.set_cons_zero, List.set_cons_succ]
    refine wpAnyJ_take1 12 rfl (by kernel_rfl) (by kernel_rfl) rfl (by kernel_rfl) (fun _ _ _ h => h) (by rfl) hSe (fun w' hSw => (by obtain ⟨z1, z2⟩ := hSw; go_simp; try (with_reducible rfl))) ?_
    try simp only [Act.put, List.getElem_toArray, List.getElem_cons_succ, List.getElem_cons_zero, List.setIfInBounds_toArray, List.set_cons_zero, List.set_cons_succ]
    refine wpAnyJ_take1 13 rfl (by kernel_rfl) (by kernel_rfl) rfl (by kernel_rfl) (fun _ _ _ h => h) (by rfl) hSe (fun w' hSw => (by obtain ⟨z1, z2⟩ := hSw; go_simp; try (with_reducible rfl))) ?_
    try simp only [Act.put, List.getElem_toArray, List.getElem_cons_succ, List.getElem_cons_zero, List.setIfInBounds_toArray, List.set_cons_zero, List.set_cons_succ]
    refine wpAnyJ_take1 14 rfl (by kernel_rfl) (by kernel_rfl) rfl (by kernel_rfl) (fun _ _ _ h => h) (by rfl) hSe (fun w' hSw => (by obtain ⟨z1, z2⟩ := hSw; go_simp; try (with_reducible rfl))) ?_
    try simp only [Act.put, List.getElem_toArray, List.getElem_cons_succ, List.getElem_cons_zero, List.setIfInBounds_toArray, List.set_cons_zero, List.set_cons_succ]
    refine wpAnyJ_take1 15 rfl (by kernel_rfl) (by kernel_rfl) rfl (by kernel_rfl) (fun _ _ _ h => h) (by rfl) hSe (fun w' hSw => (by obtain ⟨z1, z2⟩ := hSw; go_simp; try (with_reducible rfl))) ?_
    try simp only [Act.put, List.getElem_toArray, List.getElem_cons_succ, List.getElem_cons_zero, List.setIfInBounds_toArray, List.set_cons_zero, List.set_cons_succ]
    refine wpAnyJ_take1 16 rfl (by kernel_rfl) (by kernel_rfl) rfl (by kernel_rfl) (fun _ _ _ h => h) (by rfl) hSe (fun w' hSw => (by obtain ⟨z1, z2⟩ := hSw; go_simp; try (with_reducible rfl))) ?_
    try simp only [Act.put, List.getElem_toArray, List.getElem_cons_succ, List.getElem_cons_zero, List.setIfInBounds_toArray, List.set_cons_zero, List.set_cons_succ]
    refine wpAnyJ_take1 17 rfl (by kernel_rfl) (by kernel_rfl) rfl (by kernel_rfl) (fun _ _ _ h => h) (by rfl) hSe (fun w' hSw => (by obtain ⟨z1, z2⟩ := hSw; go_simp; try (with_reducible rfl))) ?_
    try simp only [Act.put, List.getElem_toArray, List.getElem_cons_succ, List.getElem_cons_zero, List.setIfInBounds_toArray, List.set_cons_zero, List.set_cons_succ]
    refine wpAnyJ_take1 18 rfl (by kernel_rfl) (by kernel_rfl) rfl (by kernel_rfl) (fun _ _ _ h => h) (by rfl) hSe (fun w' hSw => (by obtain ⟨z1, z2⟩ := hSw; go_simp; try (with_reducible rfl))) ?_
    try simp only [Act.put, List.getElem_toArray, List.getElem_cons_succ, List.getElem_cons_zero, List.setIfInBounds_toArray, List.set_cons_zero, List.set_cons_succ]
    refine wpAnyJ_take1 19 rfl (by kernel_rfl) (by kernel_rfl) rfl (by kernel_rfl) (fun _ _ _ h => h) (by rfl) hSe (fun w' hSw => (by obtain ⟨z1, z2⟩ := hSw; go_simp; try (with_reducible rfl))) ?_
    try simp only [Act.put, List.getElem_toArray, List.getElem_cons_succ, List.getElem_cons_zero, List.setIfInBounds_toArray, List.set_cons_zero, List.set_cons_succ]
    refine wpAnyJ_take1 20 rfl (by kernel_rfl) (by kernel_rfl) rfl (by kernel_rfl) (fun _ _ _ h => h) (by rfl) hSe (fun w' hSw => (by obtain ⟨z1, z2⟩ := hSw; go_simp; try (with_reducible rfl))) ?_
    try simp only [Act.put, List.getElem_toArray, List.getElem_cons_succ, List.getElem_cons_zero, List.setIfInBounds_toArray, List.set_cons_zero, List.set_cons_succ]
    refine wpAnyJ_take1 21 rfl (by kernel_rfl) (by kernel_rfl) rfl (by kernel_rfl) (fun _ _ _ h => h) (by rfl) hSe (fun w' hSw => (by obtain ⟨z1, z2⟩ := hSw; go_simp; try (with_reducible rfl))) ?_
    try simp only [Act.put, List.getElem_toArray, List.getElem_cons_succ, List.getElem_cons_zero, List.setIfInBounds_toArray, List.set_cons_zero, List.set_cons_succ]
    refine wpAnyJ_take1 22 rfl (by kernel_rfl) (by kernel_rfl) rfl (by kernel_rfl) (fun _ _ _ h => h) (by rfl) hSe (fun w' hSw => (by obtain ⟨z1, z2⟩ := hSw; go_simp; try (with_reducible rfl))) ?_
    try simp only [Act.put, List.getElem_toArray, List.getElem_cons_succ, List.getElem_cons_zero, List.setIfInBounds_toArray, List.set_cons_zero, List.set_cons_succ]
    refine wpAnyJ_take1 23 rfl (by kernel_rfl) (by kernel_rfl) rfl (by kernel_rfl) (fun _ _ _ h => h) (by rfl) hSe (fun w' hSw => (by obtain ⟨z1, z2⟩ := hSw; go_simp; try (with_reducible rfl))) ?_
    try simp only [Act.put, List.getElem_toArray, List.getElem_cons_succ, List.getElem_cons_zero, List.setIfInBounds_toArray, List.set_cons_zero, List.set_cons_succ]
    refine wpAnyJ_take1 24 rfl (by kernel_rfl) (by kernel_rfl) rfl (by kernel_rfl) (fun _ _ _ h => h) (by rfl) hSe (fun w' hSw => (by obtain ⟨z1, z2⟩ := hSw; go_simp; try (with_reducible rfl))) ?_
    try simp only [Act.put, List.getElem_toArray, List.getElem_cons_succ, List.getElem_cons_zero, List.setIfInBounds_toArray, List.set_cons_zero, List.set_cons_succ]
    refine wpAnyJ_take1 25 rfl (by kernel_rfl) (by kernel_rfl) rfl (by kernel_rfl) (fun _ _ _ h => h) (by rfl) hSe (fun w' hSw => (by obtain ⟨z1, z2⟩ := hSw; go_simp; try (with_reducible rfl))) ?_
    try simp only [Act.put, List.getElem_toArray, List.getElem_cons_succ, List.getElem_cons_zero, List.setIfInBounds_toArray, List.set_cons_zero, List.set_cons_succ]
    refine wpAnyJ_take1 26 rfl (by kernel_rfl) (by kernel_rfl) rfl (by kernel_rfl) (fun _ _ _ h => h) (by rfl) hSe (fun w' hSw => (by obtain ⟨z1, z2⟩ := hSw; go_simp; try (with_reducible rfl))) ?_
    try simp only [Act.put, List.getElem_toArray, List.getElem_cons_succ, List.getElem_cons_zero, List.setIfInBounds_toArray, List.set_cons_zero, List.set_cons_succ]
    refine wpAnyJ_take1 27 rfl (by kernel_rfl) (by kernel_rfl) rfl (by kernel_rfl) (fun _ _ _ h => h) (by rfl) hSe (fun w' hSw => (by obtain ⟨z1, z2⟩ := hSw; go_simp; try (with_reducible rfl))) ?_
    try simp only [Act.put, List.getElem_toArray, List.getElem_cons_succ, List.getElem_cons_zero, List.setIfInBounds_toArray, List.set_cons_zero, List.set_cons_succ]
    refine wpAnyJ_ready [28] (by kernel_rfl) (by simp) (NextJ.cons rfl (fun K hK => ?_) NextJ.nil)
    go_simp
    refine (example_any we).mono ?_
    rintro e wf ⟨Af, rfl, hrf, hBf⟩
    have kTf := kTe.below' hBf
    have hBSf : Below wS.heap.size wS wf := ((hBSc.trans (hBd.mono hBSc.size)).trans (hBe.mono (Nat.le_trans hBSc.size hBd.size))).trans (hBf.mono (Nat.le_trans (Nat.le_trans hBSc.size hBd.size) hBe.size))
    have hB6f : Below w6.heap.size w6 wf := hBT.trans (hBSf.mono hzT)
    go_simp
    refine hK.out _ _ ⟨kTf.cell 0 _ rfl, kTf.cell 1 _ rfl⟩ (fun _ => trivial) ?_
    clear hK K
    try simp only [Act.put, List.getElem_toArray, List.getElem_cons_succ, List.getElem_cons_zero, List.setIfInBounds_toArray, List.set_cons_zero, List.set_cons_succ]
    refine wpAnyJ_ready [29] (by kernel_rfl) (by simp) (NextJ.cons rfl (fun K hK => ?_) NextJ.nil)
    go_simp
    refine (sheet_same B6 Af c6 3 wf wf.heap.size ((hr6.below hB6f).more hB6f.size) hrf (Nat.le_refl _)).mono ?_
    rintro e wg ⟨rfl, hBg⟩
    have kTg := kTf.below' hBg
    go_simp
    refine hK.out _ _ ⟨kTg.cell 0 _ rfl, kTg.cell 1 _ rfl⟩ (fun _ => trivial) ?_
    clear hK K
    try simp only [Act.put, List.getElem_toArray, List.getElem_cons_succ, List.getElem_cons_zero, List.setIfInBounds_toArray, List.set_cons_zero, List.set_cons_succ]
    have hSg := (⟨kTg.cell 0 _ rfl, kTg.cell 1 _ rfl⟩ : wg.cell? ⟨w6.heap.size, 0, none⟩ = some (.int .i64 4) ∧ wg.cell? ⟨w6.heap.size, 1, none⟩ = some (.slice B6 exD.length c6))
    refine wpAnyJ_take1 30 rfl (by kernel_rfl) (by kernel_rfl) rfl (by kernel_rfl) (fun _ _ _ h => h) (by rfl) hSg (fun w' hSw => (by obtain ⟨z1, z2⟩ := hSw; go_simp; try (with_reducible rfl))) ?_
    try simp only [Act.put, List.getElem_toArray, List.getElem_cons_succ, List.getElem_cons_zero, List.setIfInBounds_toArray, List.set_cons_zero, List.set_cons_succ]
    refine wpAnyJ_take1 31 rfl (by kernel_rfl) (by kernel_rfl) rfl (by kernel_rfl) (fun _ _ _ h => h) (by rfl) hSg (fun w' hSw => (by obtain ⟨z1, z2⟩ := hSw; go_simp; try (with_reducible rfl))) ?_
    try simp only [Act.put, List.getElem_toArray, List.getElem_cons_succ, List.getElem_cons_zero, List.setIfInBounds_toArray, List.set_cons_zero, List.set_cons_succ]
    refine wpAnyJ_done (by kernel_rfl) ?_ _
    go_wp2_with fail
    go_ret
    exact ⟨rfl, (hB6'.trans (hB6f.mono hB6'.size)).trans (hBg.mono (Nat.le_trans hB6'.size hB6f.size))⟩

end Go.Proofs.YtoccplfnjammjaaGreatDoor
