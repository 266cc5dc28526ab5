/- compile.Print: its small functions. -/
import Derived.Test.YtmfklcnocekdlaaGreatDoorBuilder
import Derived.Test.YtmfklcnocekdlaaGreatDoorOldA1
set_option linter.unusedSimpArgs false
set_option linter.unusedVariables false
namespace Go.Proofs.YtmfklcnocekdlaaGreatDoor
open Go Go.RowKit Tor

def unshB (x : Tri) : Bool := !shapedB x
theorem print1_any (x : Tri) (w : World) :
    Calls Tryz.prog 27 #[.agg #[.int .i64 x.a, .int .i64 x.b, .string x.s]] w (Ret (.bool (unshB x)) w) := by
  obtain ⟨E, hE⟩ : ∃ E, Hid (shapedB x = E) := ⟨_, Lib.hid rfl⟩
  go_enter Tryz.func27, Tryz.ntmps27
  go_wp2_with (first
    | (go_at_call 28; refine (cshaped_any x _).mono ?_; rintro e w1 ⟨rfl, hB1⟩; rw [hE.out])
    | fail)
  go_ret
  exact Ret.bool (by unfold unshB; rw [hE.out]) (Below.trans (b := w.alloc (.cells #[.int .i64 x.a, .int .i64 x.b, .string x.s] 52)) (by (repeat' first | exact Below.refl _ _ | apply Below.drew | (refine Below.setCells ?_ _ _ ?_) | (refine Below.setCell ?_ ?_ _) | (refine Below.alloc ?_ ?_ _) | (simp; done) | (simp; omega))) (hB1.mono (by simp)))

theorem indexStep_any (A : Option Addr) (l : List Tri) (c : Nat) (w : World) (H : Nat) (hr : RdT w H A l) (hH : H ≤ w.heap.size) (hl : l.length ≤ 9223372036854775807) :
    Calls Tryz.prog 70 #[.slice A l.length c, .func (.func 27) #[] #[]] w
      fun e w' => ∃ i : Int, e = .returned (.int .i64 i) ∧ Hid (decide (0 ≤ i) = l.any unshB) ∧ Below w.heap.size w w' := by
  go_enter Tryz.func70, Tryz.ntmps70
  go_wp2_with fail
  go_loopw [8] (fun i wr => ∃ k : Nat, k ≤ l.length ∧ i = .int .i64 k ∧ Hid ((l.take k).any unshB = false) ∧ Below w.heap.size w wr) (fun i _ => l.length - (intOf i).toNat)
  case atStart => exact ⟨0, Nat.zero_le _, rfl, by simp [Hid], Below.refl _ _⟩
  case round =>
    obtain ⟨k, hk, rfl, hno, hB⟩ := hrel
    by_cases hlt : k < l.length
    · obtain ⟨b, o, rfl, hb0, h0, h1, h2⟩ := (hr.below' hB hH).tri hlt
      cases hlong : unshB l[k]
      · have HL := Lib.hid hlong
        clear hlong
        go_wp2_with (first | (go_at_call 27; refine (print1_any _ _).mono ?_; rintro e w1 ⟨rfl, hB1⟩; rw [HL.out]) | fail)
        go_roundw
        case rel => exact ⟨k + 1, by omega, by go_num, any_snoc _ _ _ hlt hno.out HL.out, hB.trans (hB1.mono (by have := hB.size; omega))⟩
        case measure => simp [intOf]; omega
      · have HL := Lib.hid hlong
        clear hlong
        go_wp2_with (first | (go_at_call 27; refine (print1_any _ _).mono ?_; rintro e w1 ⟨rfl, hB1⟩; rw [HL.out]) | fail)
        go_ret
        exact ⟨k, rfl, by have := any_at _ _ k hlt HL.out; simp [Hid, this], hB.trans (hB1.mono (by have := hB.size; omega))⟩
    · go_wp2_with fail
      go_ret
      exact ⟨-1, rfl, by have := any_end _ _ k hlt hno.out; simp [Hid, this], hB⟩
theorem containsStep_any (A : Option Addr) (l : List Tri) (c : Nat) (w : World) (H : Nat) (hr : RdT w H A l) (hH : H ≤ w.heap.size) (hl : l.length ≤ 9223372036854775807) :
    Calls Tryz.prog 26 #[.slice A l.length c, .func (.func 27) #[] #[]] w (Ret (.bool (l.any unshB)) w) := by
  go_enter Tryz.func26, Tryz.ntmps26
  go_wp2_with (first | (go_at_call 70; refine (indexStep_any _ l _ _ H hr hH hl).mono ?_; rintro e w1 ⟨i, rfl, hi, hB1⟩) | fail)
  go_ret
  exact Ret.bool hi.out hB1

/-- the kinds of lines, as they lie -/
def kindCells : Array Value := #[.string ⟨#[114, 101, 97, 99, 104]⟩, .int .i64 1, .func (.func 71) #[] #[], .func (.func 72) #[] #[],
  .string ⟨#[115, 116, 105, 116, 99, 104]⟩, .int .i64 2, .func (.func 73) #[] #[], .func (.func 74) #[] #[],
  .string ⟨#[115, 101, 119]⟩, .int .i64 3, .func (.func 71) #[] #[], .func (.func 72) #[] #[]]
theorem kinds_any (w : World) : Calls Tryz.prog 29 #[] w fun e w' => e = .returned (.slice (some ⟨w.heap.size, 0, none⟩) 3 3) ∧ Blk w' w.heap.size 64 kindCells ∧ Below w.heap.size w w' := by
  go_enter Tryz.func29, Tryz.ntmps29
  go_wp2_with fail
  go_ret
  exact ⟨rfl, Blk.new _ _ _, (Below.refl _ _).alloc (Nat.le_refl _) _⟩

theorem print2_any (nm rd wr : Value) (op a : Int) (xb : Nat) (w : World) (hc : w.cell? ⟨xb, 0, none⟩ = some (.int .i64 a)) :
    Calls Tryz.prog 32 #[.agg #[nm, .int .i64 op, wr, rd], .pointer (some ⟨xb, 0, none⟩)] w (Ret (.bool (op == a)) w) := by
  have xl := lt_of_cell hc
  obtain ⟨E, hE⟩ : ∃ E, Hid ((op == a) = E) := ⟨_, Lib.hid rfl⟩
  go_enter Tryz.func32, Tryz.ntmps32
  go_wp2_with fail
  go_ret
  exact Ret.bool rfl ((Below.refl _ _).alloc (Nat.le_refl _) _)

set_option maxRecDepth 100000 in
set_option maxHeartbeats 1000000 in
theorem indexKind_any (g xb : Nat) (a : Int) (w : World) (hk : Blk w g 64 kindCells) (hc : w.cell? ⟨xb, 0, none⟩ = some (.int .i64 a)) (ha : a = 1 ∨ a = 2 ∨ a = 3) :
    Calls Tryz.prog 31 #[.slice (some ⟨g, 0, none⟩) 3 3, .func (.func 32) #[] #[.pointer (some ⟨xb, 0, none⟩)]] w (Ret (.int .i64 (a - 1)) w) := by
  have xl := lt_of_cell hc
  go_enter Tryz.func31, Tryz.ntmps31
  go_wp2_with fail
  go_loopw [8] (fun i wr => ∃ k : Nat, (k : Int) < a ∧ i = .int .i64 k ∧ Below w.heap.size w wr) (fun i _ => 3 - (intOf i).toNat)
  case atStart => exact ⟨0, by omega, rfl, Below.refl _ _⟩
  case round =>
    obtain ⟨k, hka, rfl, hB⟩ := hrel
    have hk2 := hk.below' hB
    have hc2 : wr.cell? ⟨xb, 0, none⟩ = some (.int .i64 a) := (hB.cell (p := ⟨xb, _, none⟩) xl).trans hc
    have gl := hk2.lt
    have hz := hB.size
    have HB := Lib.hid hB
    rcases (show k = 0 ∨ k = 1 ∨ k = 2 by omega) with rfl | rfl | rfl
    · have c0 := hk2.cell 0 _ rfl
      have c1 := hk2.cell 1 _ rfl
      have c2 := hk2.cell 2 _ rfl
      have c3 := hk2.cell 3 _ rfl
      by_cases e : a = 1
      · have e' : ((1 : Int) == a) = true := by simp [e]
        have HE := Lib.hid e
        clear e
        go_wp2_with (first | (go_at_call 32; refine (print2_any _ _ _ 1 a xb _ hc2).mono ?_; rintro e w1 ⟨rfl, hB1⟩) | fail)
        go_ret
        exact Ret.int (by rw [HE.out]; rfl) (HB.out.trans (hB1.mono hz))
      · have e' : ((1 : Int) == a) = false := by simp; omega
        have HE := Lib.hid e
        have hka2 : ((1 : Nat) : Int) < a := by omega
        clear e
        go_wp2_with (first | (go_at_call 32; refine (print2_any _ _ _ 1 a xb _ hc2).mono ?_; rintro e w1 ⟨rfl, hB1⟩) | fail)
        go_roundw
        case rel => exact ⟨1, by have := HE.out; omega, by go_num, HB.out.trans (hB1.mono hz)⟩
        case measure => simp [intOf]
    · have c0 := hk2.cell 4 _ rfl
      have c1 := hk2.cell 5 _ rfl
      have c2 := hk2.cell 6 _ rfl
      have c3 := hk2.cell 7 _ rfl
      by_cases e : a = 2
      · have e' : ((2 : Int) == a) = true := by simp [e]
        have HE := Lib.hid e
        clear e
        go_wp2_with (first | (go_at_call 32; refine (print2_any _ _ _ 2 a xb _ hc2).mono ?_; rintro e w1 ⟨rfl, hB1⟩) | fail)
        go_ret
        exact Ret.int (by rw [HE.out]; rfl) (HB.out.trans (hB1.mono hz))
      · have e' : ((2 : Int) == a) = false := by simp; omega
        have HE := Lib.hid e
        have hka2 : ((2 : Nat) : Int) < a := by omega
        clear e
        go_wp2_with (first | (go_at_call 32; refine (print2_any _ _ _ 2 a xb _ hc2).mono ?_; rintro e w1 ⟨rfl, hB1⟩) | fail)
        go_roundw
        case rel => exact ⟨2, by have := HE.out; omega, by go_num, HB.out.trans (hB1.mono hz)⟩
        case measure => simp [intOf]
    · have c0 := hk2.cell 8 _ rfl
      have c1 := hk2.cell 9 _ rfl
      have c2 := hk2.cell 10 _ rfl
      have c3 := hk2.cell 11 _ rfl
      by_cases e : a = 3
      · have e' : ((3 : Int) == a) = true := by simp [e]
        have HE := Lib.hid e
        clear e
        go_wp2_with (first | (go_at_call 32; refine (print2_any _ _ _ 3 a xb _ hc2).mono ?_; rintro e w1 ⟨rfl, hB1⟩) | fail)
        go_ret
        exact Ret.int (by rw [HE.out]; rfl) (HB.out.trans (hB1.mono hz))
      · have e' : ((3 : Int) == a) = false := by simp; omega
        have HE := Lib.hid e
        have hka2 : ((3 : Nat) : Int) < a := by omega
        clear e
        go_wp2_with (first | (go_at_call 32; refine (print2_any _ _ _ 3 a xb _ hc2).mono ?_; rintro e w1 ⟨rfl, hB1⟩) | fail)
        go_roundw
        case rel => exact ⟨3, by have := HE.out; omega, by go_num, HB.out.trans (hB1.mono hz)⟩
        case measure => simp [intOf]

/-- what stands behind the place -/
def sufB (x : Tri) : List UInt8 := if x.a = 2 then (if x.s.size = 0 then [32, 45] else 32 :: x.s.data.toList) else []
theorem bare_any (x : Tri) (w : World) :
    Calls Tryz.prog 71 #[.agg #[.int .i64 x.a, .int .i64 x.b, .string x.s]] w (Ret (.string ⟨#[]⟩) w) := by
  go_enter Tryz.func71, Tryz.ntmps71
  go_wp2_with fail
  go_ret
  exact Ret.val rfl ((Below.refl _ _).alloc (Nat.le_refl _) _)
theorem stitch_any (x : Tri) (w : World) (hs : x.s.size ≤ 1000000) :
    Calls Tryz.prog 73 #[.agg #[.int .i64 x.a, .int .i64 x.b, .string x.s]] w (Ret (.string ⟨(if x.s.size = 0 then [32, 45] else 32 :: x.s.data.toList).toArray⟩) w) := by
  by_cases h : x.s.size = 0
  · have h' : x.s.toList.isEmpty = true := by rw [bempt]; simp [h]
    have H := Lib.hid h
    clear h
    go_enter Tryz.func73, Tryz.ntmps73
    go_wp2_with fail
    go_ret
    refine Ret.val ?_ ((Below.refl _ _).alloc (Nat.le_refl _) _)
    show Value.string _ = Value.string _
    first | rfl | (rw [if_pos H.out])
  · have h' : ¬ x.s = ByteArray.empty := fun e => h (by rw [e]; rfl)
    have h3 : x.s.toList.isEmpty = false := by rw [bempt]; simp [h]
    have h2 : ¬ 9223372036854775807 < 1 + x.s.size := by omega
    have H := Lib.hid h
    clear h
    go_enter Tryz.func73, Tryz.ntmps73
    go_wp2_with fail
    go_ret
    refine Ret.val ?_ ((Below.refl _ _).alloc (Nat.le_refl _) _)
    show Value.string (_ ++ _) = Value.string _
    first | rw [if_neg H.out] | skip
    congr 1
    all_goals (first | rfl | (apply ByteArray.ext; rw [ByteArray.data_append]; apply Array.toList_inj.1; simp))
end Go.Proofs.YtmfklcnocekdlaaGreatDoor
