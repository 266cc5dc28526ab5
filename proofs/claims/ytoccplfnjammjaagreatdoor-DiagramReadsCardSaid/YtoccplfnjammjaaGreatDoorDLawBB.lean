/- Merged: DLawU DLawRows DLawRows2. -/
import Derived.Test.YtoccplfnjammjaaGreatDoorDLawAA
set_option linter.unusedSimpArgs false
set_option linter.unusedVariables false
namespace Go.Proofs.YtoccplfnjammjaaGreatDoor
open Go Go.RowKit Tor

theorem pnat {p : Int} {l : List Tri} (h : sheetE p l = 0) : ∃ P : Nat, p = (P : Int) := by
  unfold sheetE at h
  split at h
  · cases h
  split at h
  · cases h
  · exact ⟨p.toNat, by omega⟩
def rowsA (p : Int) (l : List Tri) : List (List Nat) := if sheetE p l = 0 then rowsS p.toNat l else []
def shP (p : Int) (l : List Tri) : Int := if sheetE p l = 0 then p else 0
def shL (p : Int) (l : List Tri) : List Tri := if sheetE p l = 0 then sheetD p.toNat l else []
def cutOk (p : Int) (l : List Tri) (f t : Int) : Bool := decide (0 ≤ f ∧ f ≤ t ∧ t ≤ ((rowsS p.toNat l).length : Int))
def cuE (p : Int) (l : List Tri) (f t : Int) : Int := if sheetE p l = 0 then (if cutOk p l f t = true then 0 else 7) else sheetE p l
def cuP (p : Int) (l : List Tri) (f t : Int) : Int := if sheetE p l = 0 ∧ cutOk p l f t = true then p else 0
def cuL (p : Int) (l : List Tri) (f t : Int) : List Tri := if sheetE p l = 0 ∧ cutOk p l f t = true then cutD p.toNat l f.toNat t.toNat else []
def leE (p : Int) (l : List Tri) : Int := if sheetE p l = 0 then (if 52 < (looksL (sheetD p.toNat l)).length then 5 else 0) else sheetE p l
def leL (p : Int) (l : List Tri) : List (List UInt8) := if sheetE p l = 0 then (if 52 < (looksL (sheetD p.toNat l)).length then [] else looksL (sheetD p.toNat l)) else []
/-- rows are returned -/
def RowRet (w : World) (R : List (List Nat)) (E : Int) (e : Ending) (w' : World) : Prop := ∃ A c, e = .returned (.tuple #[.slice A R.length c, .int .i64 E]) ∧ RdG w' w'.heap.size A R ∧ Below w.heap.size w w'
/-- a sheet is returned -/
def ShRet (w : World) (P : Int) (d : List Tri) (E : Int) (e : Ending) (w' : World) : Prop := ∃ A c, e = .returned (.tuple #[.agg #[.int .i64 P, .slice A d.length c], .int .i64 E]) ∧ RdT w' w'.heap.size A d ∧ (∀ a, A = some a → w.heap.size ≤ a.block) ∧ Below w.heap.size w w'
/-- strings are returned -/
def StRet (w : World) (L : List (List UInt8)) (E : Int) (e : Ending) (w' : World) : Prop := ∃ A c, e = .returned (.tuple #[.slice A L.length c, .int .i64 E]) ∧ Rd 1 tenc w' w'.heap.size A L ∧ (∀ a, A = some a → w.heap.size ≤ a.block) ∧ Below w.heap.size w w'
theorem Own.rd' {α : Type} {sz : Nat} {enc : α → List Value} (henc : ∀ x, (enc x).length = sz) {w : World} {base : Nat} {e : TypeId} {A : Option Addr} {n c : Nat} {l : List α} (h : Own sz enc w base e (.slice A n c) l) : Rd sz enc w w.heap.size A l := by
  obtain ⟨B, d, hv, _, hr⟩ := Tor.Own.rd henc h
  cases hv
  exact hr
theorem own_low {α : Type} {sz : Nat} {enc : α → List Value} {w : World} {base : Nat} {e : TypeId} {A : Option Addr} {n c : Nat} {l : List α} (h : Own sz enc w base e (.slice A n c) l) : ∀ a, A = some a → base ≤ a.block := fun a e => by
  subst e
  exact (World.ownsRow.lt h a.block rfl).1
theorem rd_far {sz : Nat} {α : Type} {enc : α → List Value} {w : World} {H : Nat} {A : Option Addr} {l : List α} (h : Rd sz enc w H A l) {g : Nat} (hA : ∀ a, A = some a → a.block ≠ g) (i : Nat) (v : Value) : Rd sz enc (w.setCell ⟨g, i, none⟩ v) H A l := fun hne => by
  obtain ⟨b, o, e, hb, hc⟩ := h hne
  have hS : Same (fun j => j ≠ g) w (w.setCell ⟨g, i, none⟩ v) := ⟨rfl, rfl, rfl, by simp, fun k hk => Below.heap_setCell w ⟨g, i, none⟩ v k hk⟩
  exact ⟨b, o, e, hb, fun k x hx j u hu => (Same.cell hS (p := ⟨b, o + k * sz + j, none⟩) (hA ⟨b, o, none⟩ e)).trans (hc k x hx j u hu)⟩
theorem rdG_nil (w : World) (H : Nat) (A : Option Addr) : RdG w H A [] := fun h => absurd rfl h
theorem rd_nil {α : Type} (sz : Nat) (enc : α → List Value) (w : World) (H : Nat) (A : Option Addr) : Rd sz enc w H A [] := fun h => absurd rfl h
theorem RowRet.of_nil {w : World} {E : Int} {e : Ending} {w' : World} (h : Ret (.tuple #[.slice none 0 0, .int .i64 E]) w e w') : RowRet w [] E e w' := ⟨none, 0, h.1, rdG_nil _ _ _, h.2⟩
theorem ShRet.of_nil {w : World} {E : Int} {e : Ending} {w' : World} (h : Ret (.tuple #[.agg #[.int .i64 0, .slice none 0 0], .int .i64 E]) w e w') : ShRet w 0 [] E e w' := ⟨none, 0, h.1, rd_nil _ _ _ _ _, fun _ e => (by cases e), h.2⟩
theorem StRet.of_nil {w : World} {E : Int} {e : Ending} {w' : World} (h : Ret (.tuple #[.slice none 0 0, .int .i64 E]) w e w') : StRet w [] E e w' := ⟨none, 0, h.1, rd_nil _ _ _ _ _, fun _ e => (by cases e), h.2⟩
section
variable (p : Int) (A : Option Addr) (l : List Tri) (c : Nat) (w : World) (H : Nat) (hr : RdT w H A l) (hH : H ≤ w.heap.size)
    (hw : ∀ (k : Nat) (hk : k < l.length), l[k].s.size ≤ 9223372036854775807) (hl : l.length ≤ 1000000)
include hr hH hw hl
theorem u_rows : Calls Tryz.prog 18 #[.agg #[.int .i64 p, .slice A l.length c]] w (RowRet w (rowsA p l) (sheetE p l)) := by
  unfold rowsA
  by_cases h : sheetE p l = 0
  · obtain ⟨P, rfl⟩ := pnat h
    have ok := okD_of h
    rw [if_pos h, h, Int.toNat_natCast]
    refine (drows_any P A l c w H hr hH hw ok.chk ok.p2 ok.p24 ok.bd ok.len).mono ?_
    rintro e w' ⟨v, vs, rfl, hG, hB⟩
    obtain ⟨B, c, rfl, _, hR⟩ := hG.rd
    exact ⟨B, c, rfl, hR, hB⟩
  · rw [if_neg h]
    exact (drows_bad p A l c w H hr hH hw hl h).mono fun _ _ => RowRet.of_nil
theorem ur_rows : Calls Tryz.prog 26 #[.agg #[.int .i64 p, .slice A l.length c]] w (RowRet w (rowsA p l) (sheetE p l)) := by
  unfold rowsA
  by_cases h : sheetE p l = 0
  · obtain ⟨P, rfl⟩ := pnat h
    have ok := okD_of h
    rw [if_pos h, h, Int.toNat_natCast]
    refine (rrows_any P A l c w H hr hH hw ok.chk ok.p24 ok.bd100 ok.len).mono ?_
    rintro e w' ⟨v, vs, rfl, hG, hB⟩
    obtain ⟨B, c, rfl, _, hR⟩ := hG.rd
    exact ⟨B, c, rfl, hR, hB⟩
  · rw [if_neg h]
    exact (rrows_bad p A l c w H hr hH hw hl h).mono fun _ _ => RowRet.of_nil
theorem u_sheet : Calls Tryz.prog 22 #[.agg #[.int .i64 p, .slice A l.length c]] w (ShRet w (shP p l) (shL p l) (sheetE p l)) := by
  unfold shP shL
  by_cases h : sheetE p l = 0
  · obtain ⟨P, rfl⟩ := pnat h
    rw [if_pos h, if_pos h, h, Int.toNat_natCast]
    refine (dsheet_any P A l c w H hr hH hw (okD_of h)).mono ?_
    rintro e w' ⟨B, d, rfl, hG, _, hB⟩
    exact ⟨B, d, rfl, (Own.rd' (enc := Tri.enc) tri_len hG), own_low hG, hB⟩
  · rw [if_neg h, if_neg h]
    exact (dsheet_bad p A l c w H hr hH hw hl h).mono fun _ _ => ShRet.of_nil
theorem ur_sheet : Calls Tryz.prog 27 #[.agg #[.int .i64 p, .slice A l.length c]] w (ShRet w (shP p l) (shL p l) (sheetE p l)) := by
  unfold shP shL
  by_cases h : sheetE p l = 0
  · obtain ⟨P, rfl⟩ := pnat h
    rw [if_pos h, if_pos h, h, Int.toNat_natCast]
    refine (rdsheet_any P A l c w H hr hH hw (okD_of h)).mono ?_
    rintro e w' ⟨B, d, rfl, hG, _, hB⟩
    exact ⟨B, d, rfl, (Own.rd' (enc := Tri.enc) tri_len hG), own_low hG, hB⟩
  · rw [if_neg h, if_neg h]
    exact (rdsheet_bad p A l c w H hr hH hw hl h).mono fun _ _ => ShRet.of_nil
theorem u_cut (f t : Int) : Calls Tryz.prog 23 #[.agg #[.int .i64 p, .slice A l.length c], .int .i64 f, .int .i64 t] w (ShRet w (cuP p l f t) (cuL p l f t) (cuE p l f t)) := by
  unfold cuP cuL cuE
  by_cases h : sheetE p l = 0
  · obtain ⟨P, rfl⟩ := pnat h
    rw [if_pos h]
    by_cases hc : cutOk P l f t = true
    · rw [if_pos ⟨h, hc⟩, if_pos ⟨h, hc⟩, if_pos hc, Int.toNat_natCast]
      unfold cutOk at hc
      simp only [decide_eq_true_eq, Int.toNat_natCast] at hc
      have := dcut_any P A l c f.toNat t.toNat w H hr hH hw (okD_of h) (by omega) (by omega)
      rw [Int.toNat_of_nonneg (by omega), Int.toNat_of_nonneg (by omega)] at this
      refine this.mono ?_
      rintro e w' ⟨B, d, rfl, hG, _, hB⟩
      exact ⟨B, d, rfl, (Own.rd' (enc := Tri.enc) tri_len hG), own_low hG, hB⟩
    · rw [if_neg (fun g => hc g.2), if_neg (fun g => hc g.2), if_neg hc]
      unfold cutOk at hc
      simp only [decide_eq_true_eq, Int.toNat_natCast] at hc
      exact (dcut_err P A l c f t w H hr hH hw (okD_of h) (by omega)).mono fun _ _ => ShRet.of_nil
  · rw [if_neg (fun g => h g.1), if_neg (fun g => h g.1), if_neg h]
    exact (dcut_bad p A l c f t w H hr hH hw hl h).mono fun _ _ => ShRet.of_nil
theorem ur_cut (f t : Int) : Calls Tryz.prog 30 #[.agg #[.int .i64 p, .slice A l.length c], .int .i64 f, .int .i64 t] w (ShRet w (cuP p l f t) (cuL p l f t) (cuE p l f t)) := by
  unfold cuP cuL cuE
  by_cases h : sheetE p l = 0
  · obtain ⟨P, rfl⟩ := pnat h
    rw [if_pos h]
    by_cases hc : cutOk P l f t = true
    · rw [if_pos ⟨h, hc⟩, if_pos ⟨h, hc⟩, if_pos hc, Int.toNat_natCast]
      unfold cutOk at hc
      simp only [decide_eq_true_eq, Int.toNat_natCast] at hc
      have := rdcut_any P A l c f.toNat t.toNat w H hr hH hw (okD_of h) (by omega) (by omega)
      rw [Int.toNat_of_nonneg (by omega), Int.toNat_of_nonneg (by omega)] at this
      refine this.mono ?_
      rintro e w' ⟨B, d, rfl, hG, _, hB⟩
      exact ⟨B, d, rfl, (Own.rd' (enc := Tri.enc) tri_len hG), own_low hG, hB⟩
    · rw [if_neg (fun g => hc g.2), if_neg (fun g => hc g.2), if_neg hc]
      unfold cutOk at hc
      simp only [decide_eq_true_eq, Int.toNat_natCast] at hc
      exact (rdcut_err P A l c f t w H hr hH hw (okD_of h) (by omega)).mono fun _ _ => ShRet.of_nil
  · rw [if_neg (fun g => h g.1), if_neg (fun g => h g.1), if_neg h]
    exact (rdcut_bad p A l c f t w H hr hH hw hl h).mono fun _ _ => ShRet.of_nil
theorem u_letters : Calls Tryz.prog 24 #[.agg #[.int .i64 p, .slice A l.length c]] w (StRet w (leL p l) (leE p l)) := by
  unfold leL leE
  by_cases h : sheetE p l = 0
  · obtain ⟨P, rfl⟩ := pnat h
    rw [if_pos h, if_pos h, Int.toNat_natCast]
    refine (letters_any P A l c w H hr hH hw (okD_of h)).mono ?_
    rintro e w' ⟨v, rfl, ho, hB⟩
    obtain ⟨B, d, rfl, _, hR⟩ := Own.rd tenc_len ho
    exact ⟨B, d, rfl, hR, own_low ho, hB⟩
  · rw [if_neg h, if_neg h]
    exact (letters_bad p A l c w H hr hH hw hl h).mono fun _ _ => StRet.of_nil
theorem ur_letters : Calls Tryz.prog 29 #[.agg #[.int .i64 p, .slice A l.length c]] w (StRet w (leL p l) (leE p l)) := by
  unfold leL leE
  by_cases h : sheetE p l = 0
  · obtain ⟨P, rfl⟩ := pnat h
    rw [if_pos h, if_pos h, Int.toNat_natCast]
    refine (rletters_any P A l c w H hr hH hw (okD_of h)).mono ?_
    rintro e w' ⟨v, rfl, ho, hB⟩
    obtain ⟨B, d, rfl, _, hR⟩ := Own.rd tenc_len ho
    exact ⟨B, d, rfl, hR, own_low ho, hB⟩
  · rw [if_neg h, if_neg h]
    exact (rletters_bad p A l c w H hr hH hw hl h).mono fun _ _ => StRet.of_nil
end
end Go.Proofs.YtoccplfnjammjaaGreatDoor

namespace Go.Proofs.YtoccplfnjammjaaGreatDoor
open Go Go.RowKit Tor

theorem rowsA_len (p : Int) (l : List Tri) : (rowsA p l).length ≤ 400 ∧ ∀ r ∈ rowsA p l, r.length ≤ 400 := by
  unfold rowsA
  by_cases h : sheetE p l = 0
  · obtain ⟨P, rfl⟩ := pnat h
    have ok := okD_of h
    have hl := ok.len
    rw [if_pos h, Int.toNat_natCast]
    exact ⟨Nat.le_trans (rowsS_len P l) hl, fun r hr => by have := row_len ok.inP hr; omega⟩
  · rw [if_neg h]; exact ⟨by simp, by simp⟩
theorem shL_len (p : Int) (l : List Tri) (hl : l.length ≤ 1000000) : (shL p l).length ≤ 1000000 := by
  unfold shL
  by_cases h : sheetE p l = 0
  · obtain ⟨P, rfl⟩ := pnat h
    have ok := okD_of h
    rw [if_pos h, Int.toNat_natCast]
    have := sheetD_len ok.inP
    omega
  · rw [if_neg h]; simp
theorem leL_len (p : Int) (l : List Tri) : (leL p l).length ≤ 52 := by
  unfold leL
  by_cases h : sheetE p l = 0
  · rw [if_pos h]
    split
    · simp
    · omega
  · rw [if_neg h]; simp
theorem pickL_app (l : List Tri) (R M : List (List Nat)) : pickL l (R ++ M) = pickL l R ++ pickL l M := by simp [pickL]
theorem cutD_len (p : Nat) (l : List Tri) (f t : Nat) : (cutD p l f t).length ≤ (sheetD p l).length := by
  unfold cutD sheetD
  generalize rowsS p l = R
  have h1 : pickL l (R.take f) ++ pickL l (R.drop f) = pickL l R := by rw [← pickL_app, List.take_append_drop]
  have h2 : pickL l ((R.drop f).take (t - f)) ++ pickL l ((R.drop f).drop (t - f)) = pickL l (R.drop f) := by rw [← pickL_app, List.take_append_drop]
  rw [← h1, ← h2]
  simp only [List.length_append]
  omega
theorem cuL_len (p : Int) (l : List Tri) (f t : Int) (hl : l.length ≤ 1000000) : (cuL p l f t).length ≤ 1000000 := by
  unfold cuL
  by_cases h : sheetE p l = 0 ∧ cutOk p l f t = true
  · obtain ⟨P, rfl⟩ := pnat h.1
    have ok := okD_of h.1
    rw [if_pos h, Int.toNat_natCast]
    have := sheetD_len ok.inP
    have := cutD_len P l f.toNat t.toNat
    omega
  · rw [if_neg h]; simp
theorem rows_eq (p : Int) (l : List Tri) (A B : Option Addr) (c d : Nat) (w : World) (H : Nat) (hl : (rowsA p l).length ≤ 400 ∧ ∀ r ∈ rowsA p l, r.length ≤ 400) (ha : RdG w H A (rowsA p l)) (hb : RdG w H B (rowsA p l)) (hH : H ≤ w.heap.size) :
    Calls Tryz.prog 28 #[.slice A (rowsA p l).length c, .slice B (rowsA p l).length d] w (Ret (.bool true) w) := by
  have := rowsEq_any A B (rowsA p l) (rowsA p l) c d w H (by omega) (fun r hr => by have := hl.2 r hr; omega) (fun r hr => by have := hl.2 r hr; omega) ha hb hH
  rw [show decide (rowsA p l = rowsA p l) = true by simp] at this
  exact this
theorem same14_eq (A B : Option Addr) (l : List Tri) (p : Int) (c d : Nat) (w : World) (H : Nat) (hl : l.length ≤ 1000000) (ha : RdT w H A l) (hb : RdT w H B l) (hH : H ≤ w.heap.size) :
    Calls Tryz.prog 13 #[.agg #[.int .i64 p, .slice A l.length c], .agg #[.int .i64 p, .slice B l.length d]] w (Ret (.bool true) w) := by
  have := same14_any A B l l p p c d w H hl ha hb hH
  rw [show decide (p = p ∧ l = l) = true by simp] at this
  exact this
end Go.Proofs.YtoccplfnjammjaaGreatDoor

namespace Go.Proofs.YtoccplfnjammjaaGreatDoor
open Go Go.RowKit Tor

set_option maxRecDepth 100000 in
set_option maxHeartbeats 8000000 in
theorem lawRows_any (p : Int) (A : Option Addr) (l : List Tri) (c : Nat) (f t : Int) (w : World) (H : Nat) (hr : RdT w H A l) (hH : H ≤ w.heap.size)
    (hw : ∀ (k : Nat) (hk : k < l.length), l[k].s.size ≤ 9223372036854775807) (hl : l.length ≤ 9223372036854775807) (hDt : DtAt w) :
    Calls Tryz.prog 9 #[.agg #[.int .i64 p, .slice A l.length c], .int .i64 f, .int .i64 t] w (Ret (.bool true) w) := by
  have hBA : Below w.heap.size w (w.alloc (.cells #[.int .i64 p, .slice A l.length c] 25)) := (Below.refl _ _).alloc (Nat.le_refl _) _
  have kSA : Blk (w.alloc (.cells #[.int .i64 p, .slice A l.length c] 25)) w.heap.size 25 #[.int .i64 p, .slice A l.length c] := Blk.new w _ _
  have HF := Lib.hid (far_any p A l c 100 _ H (hr.below' hBA hH) (by have := hBA.size; omega) hl hw)
  obtain ⟨wA, hwA⟩ : ∃ wA, Hid (w.alloc (.cells #[.int .i64 p, .slice A l.length c] 25) = wA) := ⟨_, Lib.hid rfl⟩
  rw [hwA.out] at hBA kSA HF
  have HW := Lib.hid hw
  clear hw
  have hlA := kSA.lt
  have A0 := kSA.cell 0 _ rfl
  have A1 := kSA.cell 1 _ rfl
  have hzA := hBA.size
  obtain ⟨FB, hFB⟩ : ∃ b, Hid (farD l 100 = b) := ⟨_, Lib.hid rfl⟩
  rw [hFB.out] at HF
  go_enter Tryz.func9, Tryz.ntmps9
  cases FB with
  | true =>
    go_wp2_with (first
      | (go_at_call 15; rw [hwA.out]; refine HF.out.mono ?_; rintro e w1 ⟨rfl, hB1⟩
         have hBw1 := hBA.trans (hB1.mono hzA))
      | (go_at_call 10; refine (shown_any w1 (hDt.below hBw1)).mono ?_; rintro e w2 ⟨rfl, hB2⟩
         have hBw2 := hBw1.trans (hB2.mono hBw1.size))
      | fail)
    go_ret
    exact ⟨rfl, hBw2⟩
  | false =>
    have hl6 : l.length ≤ 1000000 := by
      have hn := hFB.out
      unfold farD at hn
      simp only [Bool.or_eq_false_iff, decide_eq_false_iff_not] at hn
      omega
    have hRl := rowsA_len p l
    have hSl := shL_len p l hl6
    have hCl := cuL_len p l f t hl6
    have hLl := leL_len p l
    have HRL := Lib.hid hRl
    clear hRl hl
    go_wp2_with (first
      | (go_at_call 15; rw [hwA.out]; refine (HF.out).mono ?_; rintro e w1 ⟨rfl, hB1⟩
         have hBw1 := hBA.trans (hB1.mono hzA)
         have kS1 := kSA.below' hB1
         have hz1 := hB1.size
         have a01 := kS1.cell 0 _ rfl
         have a11 := kS1.cell 1 _ rfl
         have al1 := kS1.lt)
      | (go_at_call 18; refine (u_rows p A l c w1 H (hr.below' hBw1 hH) (by have := (hBw1).size; omega) HW.out hl6).mono ?_; rintro e w2 ⟨A2, c2, rfl, g2_2, hB2⟩
         have hBw2 := hBw1.trans (hB2.mono hBw1.size)
         have hz2 := hB2.size
         have kS2 := kS1.below' hB2
         have a02 := kS2.cell 0 _ rfl
         have a12 := kS2.cell 1 _ rfl
         have al2 := kS2.lt)
      | (go_at_call 26; refine (ur_rows p A l c w2 H (hr.below' hBw2 hH) (by have := (hBw2).size; omega) HW.out hl6).mono ?_; rintro e w3 ⟨A3, c3, rfl, g3_3, hB3⟩
         have hBw3 := hBw2.trans (hB3.mono hBw2.size)
         have hz3 := hB3.size
         have kS3 := kS2.below' hB3
         have a03 := kS3.cell 0 _ rfl
         have a13 := kS3.cell 1 _ rfl
         have al3 := kS3.lt
         have g2_3 := g2_2.below' hB3 (by omega))
      | (go_at_call 22; refine (u_sheet p A l c w3 H (hr.below' hBw3 hH) (by have := (hBw3).size; omega) HW.out hl6).mono ?_; rintro e w4 ⟨A4, c4, rfl, d4_4, lo4, hB4⟩
         have hBw4 := hBw3.trans (hB4.mono hBw3.size)
         have hz4 := hB4.size
         have kS4 := kS3.below' hB4
         have a04 := kS4.cell 0 _ rfl
         have a14 := kS4.cell 1 _ rfl
         have al4 := kS4.lt
         have g2_4 := g2_3.below' hB4 (by omega)
         have g3_4 := g3_3.below' hB4 (by omega)
         have hBx : Below w4.heap.size w4 (w4.alloc (.cells #[.int .i64 (shP p l), .slice A4 (shL p l).length c4] 25)) := (Below.refl _ _).alloc (Nat.le_refl _) _
         have k11_x : Blk (w4.alloc (.cells #[.int .i64 (shP p l), .slice A4 (shL p l).length c4] 25)) w4.heap.size 25 #[.int .i64 (shP p l), .slice A4 (shL p l).length c4] := Blk.new w4 _ _
         have hBwx := hBw4.trans (hBx.mono hBw4.size)
         have hzx := hBx.size
         have kSx := kS4.below' hBx
         have a0x := kSx.cell 0 _ rfl
         have a1x := kSx.cell 1 _ rfl
         have alx := kSx.lt
         have g2_x := g2_4.below' hBx (by omega)
         have g3_x := g3_4.below' hBx (by omega)
         have d4_x := d4_4.below' hBx (by omega))
      | (go_at_call 27; refine (ur_sheet p A l c _ H (hr.below' hBwx hH) (by have := (hBwx).size; omega) HW.out hl6).mono ?_; rintro e w5 ⟨A5, c5, rfl, d5_5, lo5, hB5⟩
         have hBw5 := hBwx.trans (hB5.mono hBwx.size)
         have hz5 := hB5.size
         have kS5 := kSx.below' hB5
         have a05 := kS5.cell 0 _ rfl
         have a15 := kS5.cell 1 _ rfl
         have al5 := kS5.lt
         have g2_5 := g2_x.below' hB5 (by omega)
         have g3_5 := g3_x.below' hB5 (by omega)
         have d4_5 := d4_x.below' hB5 (by omega)
         have k11_5 := k11_x.below' hB5
         have hBy : Below w5.heap.size w5 (w5.alloc (.cells #[.int .i64 (shP p l), .slice A5 (shL p l).length c5] 25)) := (Below.refl _ _).alloc (Nat.le_refl _) _
         have k13_y : Blk (w5.alloc (.cells #[.int .i64 (shP p l), .slice A5 (shL p l).length c5] 25)) w5.heap.size 25 #[.int .i64 (shP p l), .slice A5 (shL p l).length c5] := Blk.new w5 _ _
         have hBwy := hBw5.trans (hBy.mono hBw5.size)
         have hzy := hBy.size
         have kSy := kS5.below' hBy
         have a0y := kSy.cell 0 _ rfl
         have a1y := kSy.cell 1 _ rfl
         have aly := kSy.lt
         have g2_y := g2_5.below' hBy (by omega)
         have g3_y := g3_5.below' hBy (by omega)
         have d4_y := d4_5.below' hBy (by omega)
         have d5_y := d5_5.below' hBy (by omega)
         have k11_y := k11_5.below' hBy
         have l45 := k11_5.lt)
      | (go_at_call 28; refine (rows_eq p l A2 A3 c2 c3 _ _ HRL.out (rdG_more g2_y (by omega)) (rdG_more g3_y (by omega)) (Nat.le_refl _)).mono ?_; rintro e w6 ⟨rfl, hB6⟩
         have hBw6 := hBwy.trans (hB6.mono hBwy.size)
         have hz6 := hB6.size
         have kS6 := kSy.below' hB6
         have a06 := kS6.cell 0 _ rfl
         have a16 := kS6.cell 1 _ rfl
         have al6 := kS6.lt
         have d4_6 := d4_y.below' hB6 (by omega)
         have d5_6 := d5_y.below' hB6 (by omega)
         have k11_6 := k11_y.below' hB6
         have k13_6 := k13_y.below' hB6
         have l56 := k13_6.lt
         have k11c0_6 := k11_6.cell 0 _ rfl
         have k11c1_6 := k11_6.cell 1 _ rfl
         have k11f0_6 := k11_6.frozen 0
         have k11f1_6 := k11_6.frozen 1
         have k11l_6 := k11_6.lt
         have k13c0_6 := k13_6.cell 0 _ rfl
         have k13c1_6 := k13_6.cell 1 _ rfl
         have k13f0_6 := k13_6.frozen 0
         have k13f1_6 := k13_6.frozen 1
         have k13l_6 := k13_6.lt)
      | (go_at_call 13; refine (same14_eq A4 A5 (shL p l) (shP p l) c4 c5 w6 w6.heap.size hSl (d4_6.more (by omega)) (d5_6.more (by omega)) (Nat.le_refl _)).mono ?_; rintro e w7 ⟨rfl, hB7⟩
         have hBw7 := hBw6.trans (hB7.mono hBw6.size)
         have hz7 := hB7.size
         have kS7 := kS6.below' hB7
         have a07 := kS7.cell 0 _ rfl
         have a17 := kS7.cell 1 _ rfl
         have al7 := kS7.lt
         have k11_7 := k11_6.below' hB7
         have k13_7 := k13_6.below' hB7)
      | (go_at_call 24; refine (u_letters p A l c w7 H (hr.below' hBw7 hH) (by have := (hBw7).size; omega) HW.out hl6).mono ?_; rintro e w8 ⟨A8, c8, rfl, s8_8, lo8, hB8⟩
         have hBw8 := hBw7.trans (hB8.mono hBw7.size)
         have hz8 := hB8.size
         have kS8 := kS7.below' hB8
         have a08 := kS8.cell 0 _ rfl
         have a18 := kS8.cell 1 _ rfl
         have al8 := kS8.lt
         have k11_8 := k11_7.below' hB8
         have k13_8 := k13_7.below' hB8)
      | (go_at_call 29; refine (ur_letters p A l c w8 H (hr.below' hBw8 hH) (by have := (hBw8).size; omega) HW.out hl6).mono ?_; rintro e w9 ⟨A9, c9, rfl, s9_9, lo9, hB9⟩
         have hBw9 := hBw8.trans (hB9.mono hBw8.size)
         have hz9 := hB9.size
         have kS9 := kS8.below' hB9
         have a09 := kS9.cell 0 _ rfl
         have a19 := kS9.cell 1 _ rfl
         have al9 := kS9.lt
         have k11_9 := k11_8.below' hB9
         have k13_9 := k13_8.below' hB9
         have s8_9 := s8_8.below' hB9 (by omega))
      | (go_at_call 23; refine (u_cut p A l c w9 H (hr.below' hBw9 hH) (by have := (hBw9).size; omega) HW.out hl6 f t).mono ?_; rintro e w10 ⟨A10, c10, rfl, d10_10, lo10, hB10⟩
         have hBw10 := hBw9.trans (hB10.mono hBw9.size)
         have hz10 := hB10.size
         have kS10 := kS9.below' hB10
         have a010 := kS10.cell 0 _ rfl
         have a110 := kS10.cell 1 _ rfl
         have al10 := kS10.lt
         have k11_10 := k11_9.below' hB10
         have k13_10 := k13_9.below' hB10
         have s8_10 := s8_9.below' hB10 (by omega)
         have s9_10 := s9_9.below' hB10 (by omega)
         have k11c0_10 := k11_10.cell 0 _ rfl
         have k11c1_10 := k11_10.cell 1 _ rfl
         have k11f0_10 := k11_10.frozen 0
         have k11f1_10 := k11_10.frozen 1
         have k11l_10 := k11_10.lt
         have k13c0_10 := k13_10.cell 0 _ rfl
         have k13c1_10 := k13_10.cell 1 _ rfl
         have k13f0_10 := k13_10.frozen 0
         have k13f1_10 := k13_10.frozen 1
         have k13l_10 := k13_10.lt
         have hBwD : Below w.heap.size w ((w10.setCell ⟨w4.heap.size, 0, none⟩ (.int .i64 (cuP p l f t))).setCell ⟨w4.heap.size, 1, none⟩ (.slice A10 (cuL p l f t).length c10)) := (hBw10.setCell (by show w.heap.size ≤ w4.heap.size; omega) _).setCell (by show w.heap.size ≤ w4.heap.size; omega) _
         have k11_D : Blk ((w10.setCell ⟨w4.heap.size, 0, none⟩ (.int .i64 (cuP p l f t))).setCell ⟨w4.heap.size, 1, none⟩ (.slice A10 (cuL p l f t).length c10)) w4.heap.size 25 #[.int .i64 (cuP p l f t), .slice A10 (cuL p l f t).length c10] := by simpa using (k11_10.set_ 0 (.int .i64 (cuP p l f t))).set_ 1 (.slice A10 (cuL p l f t).length c10)
         have k13_D := (k13_10.far (p := ⟨w4.heap.size, 0, none⟩) (by show w5.heap.size ≠ w4.heap.size; omega) (.int .i64 (cuP p l f t))).far (p := ⟨w4.heap.size, 1, none⟩) (by show w5.heap.size ≠ w4.heap.size; omega) (.slice A10 (cuL p l f t).length c10)
         have kS_D := (kS10.far (p := ⟨w4.heap.size, 0, none⟩) (by show w.heap.size ≠ w4.heap.size; omega) (.int .i64 (cuP p l f t))).far (p := ⟨w4.heap.size, 1, none⟩) (by show w.heap.size ≠ w4.heap.size; omega) (.slice A10 (cuL p l f t).length c10)
         have s8_D := rd_far (rd_far s8_10 (fun a e => by have := lo8 a e; omega) 0 (.int .i64 (cuP p l f t)) (g := w4.heap.size)) (fun a e => by have := lo8 a e; omega) 1 (.slice A10 (cuL p l f t).length c10) (g := w4.heap.size)
         have s9_D := rd_far (rd_far s9_10 (fun a e => by have := lo9 a e; omega) 0 (.int .i64 (cuP p l f t)) (g := w4.heap.size)) (fun a e => by have := lo9 a e; omega) 1 (.slice A10 (cuL p l f t).length c10) (g := w4.heap.size)
         have d10_D := rd_far (rd_far d10_10 (fun a e => by have := lo10 a e; omega) 0 (.int .i64 (cuP p l f t)) (g := w4.heap.size)) (fun a e => by have := lo10 a e; omega) 1 (.slice A10 (cuL p l f t).length c10) (g := w4.heap.size)
         have hzD : w10.heap.size = ((w10.setCell ⟨w4.heap.size, 0, none⟩ (.int .i64 (cuP p l f t))).setCell ⟨w4.heap.size, 1, none⟩ (.slice A10 (cuL p l f t).length c10)).heap.size := by simp
         have ad0 := kS_D.cell 0 _ rfl
         have ad1 := kS_D.cell 1 _ rfl
         have adl := kS_D.lt)
      | (go_at_call 30; refine (ur_cut p A l c _ H (hr.below' hBwD hH) (by have := (hBwD).size; omega) HW.out hl6 f t).mono ?_; rintro e w11 ⟨A11, c11, rfl, d11_11, lo11, hB11⟩
         have hBw11 := hBwD.trans (hB11.mono hBwD.size)
         have hz11 := hB11.size
         rw [← hzD] at hz11 lo11
         have k11_11 := k11_D.below' hB11
         have k13_11 := k13_D.below' hB11
         have s8_11 := s8_D.below' hB11 (by omega)
         have s9_11 := s9_D.below' hB11 (by omega)
         have d10_11 := d10_D.below' hB11 (by omega)
         have k11c0_11 := k11_11.cell 0 _ rfl
         have k11c1_11 := k11_11.cell 1 _ rfl
         have k11f0_11 := k11_11.frozen 0
         have k11f1_11 := k11_11.frozen 1
         have k11l_11 := k11_11.lt
         have k13c0_11 := k13_11.cell 0 _ rfl
         have k13c1_11 := k13_11.cell 1 _ rfl
         have k13f0_11 := k13_11.frozen 0
         have k13f1_11 := k13_11.frozen 1
         have k13l_11 := k13_11.lt
         have hBwE : Below w.heap.size w ((w11.setCell ⟨w5.heap.size, 0, none⟩ (.int .i64 (cuP p l f t))).setCell ⟨w5.heap.size, 1, none⟩ (.slice A11 (cuL p l f t).length c11)) := (hBw11.setCell (by show w.heap.size ≤ w5.heap.size; omega) _).setCell (by show w.heap.size ≤ w5.heap.size; omega) _
         have k13_E : Blk ((w11.setCell ⟨w5.heap.size, 0, none⟩ (.int .i64 (cuP p l f t))).setCell ⟨w5.heap.size, 1, none⟩ (.slice A11 (cuL p l f t).length c11)) w5.heap.size 25 #[.int .i64 (cuP p l f t), .slice A11 (cuL p l f t).length c11] := by simpa using (k13_11.set_ 0 (.int .i64 (cuP p l f t))).set_ 1 (.slice A11 (cuL p l f t).length c11)
         have k11_E := (k11_11.far (p := ⟨w5.heap.size, 0, none⟩) (by show w4.heap.size ≠ w5.heap.size; omega) (.int .i64 (cuP p l f t))).far (p := ⟨w5.heap.size, 1, none⟩) (by show w4.heap.size ≠ w5.heap.size; omega) (.slice A11 (cuL p l f t).length c11)
         have s8_E := rd_far (rd_far s8_11 (fun a e => by have := lo8 a e; omega) 0 (.int .i64 (cuP p l f t)) (g := w5.heap.size)) (fun a e => by have := lo8 a e; omega) 1 (.slice A11 (cuL p l f t).length c11) (g := w5.heap.size)
         have s9_E := rd_far (rd_far s9_11 (fun a e => by have := lo9 a e; omega) 0 (.int .i64 (cuP p l f t)) (g := w5.heap.size)) (fun a e => by have := lo9 a e; omega) 1 (.slice A11 (cuL p l f t).length c11) (g := w5.heap.size)
         have d10_E := rd_far (rd_far d10_11 (fun a e => by have := lo10 a e; omega) 0 (.int .i64 (cuP p l f t)) (g := w5.heap.size)) (fun a e => by have := lo10 a e; omega) 1 (.slice A11 (cuL p l f t).length c11) (g := w5.heap.size)
         have d11_E := rd_far (rd_far d11_11 (fun a e => by have := lo11 a e; omega) 0 (.int .i64 (cuP p l f t)) (g := w5.heap.size)) (fun a e => by have := lo11 a e; omega) 1 (.slice A11 (cuL p l f t).length c11) (g := w5.heap.size)
         have hzE : w11.heap.size = ((w11.setCell ⟨w5.heap.size, 0, none⟩ (.int .i64 (cuP p l f t))).setCell ⟨w5.heap.size, 1, none⟩ (.slice A11 (cuL p l f t).length c11)).heap.size := by simp
         have e110 := k11_E.cell 0 _ rfl
         have e111 := k11_E.cell 1 _ rfl
         have e11l := k11_E.lt
         have e130 := k13_E.cell 0 _ rfl
         have e131 := k13_E.cell 1 _ rfl
         have e13l := k13_E.lt)
      | (go_at_call 13; refine (same14_eq A10 A11 (cuL p l f t) (cuP p l f t) c10 c11 _ w11.heap.size hCl (d10_E.more (by omega)) d11_E (by omega)).mono ?_; rintro e w12 ⟨rfl, hB12⟩
         rw [← hzE] at hB12
         have hBw12 := hBwE.trans (hB12.mono (by omega))
         have s8_12 := s8_E.below' hB12 (by omega)
         have s9_12 := s9_E.below' hB12 (by omega))
      | fail)
    have hD12 := hDt.below hBw12
    have hz12 := hBw12.size
    have h8z : w8.heap.size ≤ w12.heap.size := by have := hB12.size; omega
    have h9z : w9.heap.size ≤ w12.heap.size := by have := hB12.size; omega
    generalize leL p l = LL at *
    go_loopw [19] (fun iv wr => ∃ k : Nat, k ≤ LL.length ∧ iv = .int .i64 k ∧ Below w12.heap.size w12 wr) (fun iv _ => LL.length - (intOf iv).toNat)
    case atStart => exact ⟨0, Nat.zero_le _, rfl, Below.refl _ _⟩
    case round =>
      obtain ⟨k, hk, rfl, hBr⟩ := hrel
      have hzr := hBr.size
      by_cases hlt : k < LL.length
      · obtain ⟨b, o, rfl, hb0, h0⟩ := (s8_12.below' hBr h8z).txt hlt
        obtain ⟨b', o', rfl, hb0', g0⟩ := (s9_12.below' hBr h9z).txt hlt
        have l1 := lt_of_cell h0
        have l2 := lt_of_cell g0
        have k0 : (0 : Int) ≤ (k : Int) := by omega
        have k1 : (k : Int) < (LL.length : Int) := by omega
        obtain ⟨x, hx⟩ : ∃ x, Hid (LL[k] = x) := ⟨_, Lib.hid rfl⟩
        rw [hx.out] at h0 g0
        have tx := bN_toList x
        have HDT := Lib.hid hD12
        go_wp2_with fail
        go_quiet (fail)
        go_wp2_with fail
        go_roundw
        case rel => exact ⟨k + 1, by omega, by go_num, hBr.drewN nq⟩
        case measure => simp [intOf]; omega
      · go_wp2_with (first
          | (go_at_call 10; refine (shown_any wr (hD12.below hBr)).mono ?_; rintro e w13 ⟨rfl, hB13⟩)
          | fail)
        go_ret
        exact ⟨rfl, (hBw12.trans (hBr.mono hz12)).trans (hB13.mono (by omega))⟩
end Go.Proofs.YtoccplfnjammjaaGreatDoor
