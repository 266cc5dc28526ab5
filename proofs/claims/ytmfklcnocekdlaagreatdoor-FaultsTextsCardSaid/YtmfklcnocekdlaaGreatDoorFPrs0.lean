/- faults: what Parse calls. -/
import Derived.Test.YtmfklcnocekdlaaGreatDoorFWr
import Derived.Test.YtmfklcnocekdlaaGreatDoorClos
set_option linter.unusedSimpArgs false
set_option linter.unusedVariables false
namespace Go.Proofs.YtmfklcnocekdlaaGreatDoor
open Go Go.RowKit Tor

theorem bytes_ofF (s : ByteArray) : bN s.data.toList = s := ByteArray.ext (Array.ext' rfl)
theorem splitF_bN (L : List UInt8) (c : UInt8) : Lib.splitB ⟨#[c]⟩ 0 (Lib.countB (bN L) ⟨#[c]⟩) (bN L) = (Lib.split L [c]).map bN := by
  have h1 := Lib.splitB_data ⟨#[c]⟩ 0 (Lib.countB (bN L) ⟨#[c]⟩) (bN L)
  have h2 : (Lib.splitB ⟨#[c]⟩ 0 (Lib.countB (bN L) ⟨#[c]⟩) (bN L)).map (·.data.toList) = Lib.split L [c] := h1
  rw [← h2, List.map_map]
  have : (bN ∘ fun x : ByteArray => x.data.toList) = id := funext fun x => bytes_ofF x
  rw [this, List.map_id]
theorem splitF_any (L : List UInt8) (w : World) (h : DtAt w) (hs : L.length ≤ 4000000) :
    Calls Tryz.prog 58 #[.string (bN L), .string ⟨#[32]⟩] w fun e w' =>
      e = .returned (.slice (some ⟨w.heap.size, 0, none⟩) (spl 32 L).length (spl 32 L).length) ∧ w' = w.alloc (.cells ((spl 32 L).map fun t => Value.string (bN t)).toArray 9) := by
  obtain ⟨m, hm⟩ := h.ml
  refine (Tryz.strings_Split (bN L) ⟨#[32]⟩ m w (by show L.length < _; omega) hm (by show 1 ≤ 1; omega)).mono ?_
  rintro e w' ⟨rfl, rfl⟩
  have hn : Lib.countB (bN L) ⟨#[32]⟩ + 1 = (Lib.split L [32]).length := by
    rw [← Lib.splitB_all ⟨#[32]⟩ (by show 1 ≤ 1; omega) 0 _ (bN L) rfl, splitF_bN, List.length_map]
  rw [hn, splitF_bN, List.map_map, split_spl]
  exact ⟨rfl, rfl⟩
theorem fnum_any (s : List UInt8) (least most : Int) (w : World) (hs : s.length ≤ 1000000) (hE : DtAt w) :
    Calls Tryz.prog 61 #[.string (bN s), .int .i64 least, .int .i64 most] w (Ret (.int .i64 (intW s least most).1) w) := by
  have H := Lib.hid (wint_any (bN s) least most w hs hE.err)
  obtain ⟨⟨x, y⟩, hx⟩ : ∃ x, Hid (intW s least most = x) := ⟨_, Lib.hid rfl⟩
  have e0 : (bN s).data.toList = s := rfl
  rw [e0, hx.out] at H
  rw [hx.out]
  clear hE e0
  dsimp only at H ⊢
  go_enter Tryz.func61, Tryz.ntmps61
  go_wp2_with (first | (go_at_call 62; refine H.out.mono ?_; rintro e w1 ⟨rfl, hB1⟩) | fail)
  go_ret
  exact Ret.int rfl hB1
set_option maxRecDepth 100000 in
theorem pnameG_any (lb gS n : Nat) (K : KAt) (k : Int) (s0 : List UInt8) (hn : 0 < n) (w : World) (b0 : w.cell? ⟨lb, 0, none⟩ = some (.slice (some ⟨gS, 0, none⟩) n n)) (h0 : w.cell? ⟨gS, 0, none⟩ = some (.string (bN s0))) :
    Calls Tryz.prog 60 #[.agg (kcells K k).toArray, .pointer (some ⟨lb, 0, none⟩)] w (Ret (.bool (decide (fnm k = s0))) w) := by
  obtain ⟨V, hV⟩ : ∃ V, Hid (K.withs k = V) := ⟨_, Lib.hid rfl⟩
  obtain ⟨i1, hi1⟩ : ∃ x, Hid (klf k = x) := ⟨_, Lib.hid rfl⟩
  obtain ⟨i2, hi2⟩ : ∃ x, Hid (kpf k = x) := ⟨_, Lib.hid rfl⟩
  obtain ⟨kl, hkl⟩ : ∃ x, Hid (klet k = x) := ⟨_, Lib.hid rfl⟩
  have hkc : (kcells K k).toArray = #[.int .i64 k, .string (kname k), .bool kl, V, .func (.func i1) #[] #[], .func (.func i2) #[] #[]] := by unfold kcells; rw [hV.out, hkl.out, hi1.out, hi2.out]
  rw [hkc]
  clear hkc
  have hBB : Below w.heap.size w (w.alloc (.cells #[.int .i64 k, .string (kname k), .bool kl, V, .func (.func i1) #[] #[], .func (.func i2) #[] #[]] 106)) := (Below.refl _ _).alloc (Nat.le_refl _) _
  have kK := Blk.new w 106 #[.int .i64 k, .string (kname k), .bool kl, V, .func (.func i1) #[] #[], .func (.func i2) #[] #[]]
  have n1 := kK.cell 1 _ rfl
  have b0' := cell_old (o := .cells #[.int .i64 k, .string (kname k), .bool kl, V, .func (.func i1) #[] #[], .func (.func i2) #[] #[]] 106) b0
  have s0' := cell_old (o := .cells #[.int .i64 k, .string (kname k), .bool kl, V, .func (.func i1) #[] #[], .func (.func i2) #[] #[]] 106) h0
  have hn0 : (0 : Int) < (n : Int) := by omega
  obtain ⟨nm, hnm⟩ : ∃ nm, Hid (kname k = nm) := ⟨_, Lib.hid rfl⟩
  obtain ⟨S, hS⟩ : ∃ S, Hid (bN s0 = S) := ⟨_, Lib.hid rfl⟩
  obtain ⟨B, hB⟩ : ∃ B, Hid (decide (fnm k = s0) = B) := ⟨_, Lib.hid rfl⟩
  have hd : Hid ((nm.toList == S.toList) = B) := Lib.hid (by
    rw [← hB.out, ← hnm.out, ← hS.out, show (kname k).toList = fnm k from Lib.toList_data _, show (bN s0).toList = s0 from Lib.toList_data _]
    by_cases h : fnm k = s0
    · rw [decide_eq_true h, h]; exact beq_self_eq_true _
    · rw [decide_eq_false h]; exact beq_eq_false_iff_ne.2 h)
  rw [hB.out]
  rw [hnm.out] at n1 b0' s0' hBB ⊢
  rw [hS.out] at s0'
  clear kK
  go_enter Tryz.func60, Tryz.ntmps60
  go_wp2_with fail
  go_quiet (fail)
  go_wp2_with fail
  go_ret
  exact Ret.val (by rw [← hd.out]; rfl) (hBB.drewN _)
theorem kindI_none {s : List UInt8} (h : ∀ q : Int, 1 ≤ q → q ≤ 6 → fnm q ≠ s) : kindI s = 0 := Classical.byContradiction fun hn => by
  have h1 := kindI_eq hn
  have h2 := kindI_le s
  exact h _ (by omega) h2.2 h1.symm
set_option maxRecDepth 100000 in
set_option maxHeartbeats 2000000 in
theorem findex_any (lb gS n g H : Nat) (K : KAt) (s0 : List UInt8) (hn : 0 < n) (w : World) (hK : KindsAt w H g K) (hH : H ≤ w.heap.size) (b0 : w.cell? ⟨lb, 0, none⟩ = some (.slice (some ⟨gS, 0, none⟩) n n)) (h0 : w.cell? ⟨gS, 0, none⟩ = some (.string (bN s0))) :
    Calls Tryz.prog 59 #[.slice (some ⟨g, 0, none⟩) 6 6, .func (.func 60) #[] #[.pointer (some ⟨lb, 0, none⟩)]] w (Ret (.int .i64 (kindI s0 - 1)) w) := by
  obtain ⟨wo, rfl⟩ : ∃ wo : World, wo = w := ⟨_, rfl⟩
  have lbl := lt_of_cell b0
  have gSl := lt_of_cell h0
  have gl : g < wo.heap.size := Nat.lt_of_lt_of_le hK.lt hH
  obtain ⟨R, hR⟩ : ∃ R, Hid (kindI s0 - 1 = R) := ⟨_, Lib.hid rfl⟩
  rw [hR.out]
  go_enter Tryz.func59, Tryz.ntmps59
  go_wp2_with fail
  go_loopw [8] (fun i wr => ∃ j : Nat, j ≤ 6 ∧ i = .int .i64 j ∧ Hid (∀ q : Int, 1 ≤ q → q ≤ j → fnm q ≠ s0) ∧ Below wo.heap.size wo wr) (fun i _ => 6 - (intOf i).toNat)
  case atStart => exact ⟨0, by omega, rfl, Lib.hid (fun q h1 h2 => absurd h1 (by omega)), Below.refl _ _⟩
  case round =>
    obtain ⟨j, hj, rfl, hno, hB⟩ := hrel
    by_cases hj6 : j < 6
    · have a1 : (j : Int) < 6 := by omega
      have kb := (hK.blk).below hB gl
      have b1 := (hB.cell (p := ⟨lb, 0, none⟩) lbl).trans b0
      have s1 := (hB.cell (p := ⟨gS, 0, none⟩) gSl).trans h0
      have HN := Lib.hid (fun (k : Int) => pnameG_any lb gS n K k s0 hn wr b1 s1)
      obtain ⟨V, hV⟩ : ∃ V, Hid (K.withs ((j : Int) + 1) = V) := ⟨_, Lib.hid rfl⟩
      obtain ⟨i1, hi1⟩ : ∃ x, Hid (klf ((j : Int) + 1) = x) := ⟨_, Lib.hid rfl⟩
      obtain ⟨i2, hi2⟩ : ∃ x, Hid (kpf ((j : Int) + 1) = x) := ⟨_, Lib.hid rfl⟩
      obtain ⟨kl, hkl⟩ : ∃ x, Hid (klet ((j : Int) + 1) = x) := ⟨_, Lib.hid rfl⟩
      obtain ⟨nm, hnm⟩ : ∃ x, Hid (kname ((j : Int) + 1) = x) := ⟨_, Lib.hid rfl⟩
      have hkc : Hid (kcells K ((j : Int) + 1) = [.int .i64 ((j : Int) + 1), .string nm, .bool kl, V, .func (.func i1) #[] #[], .func (.func i2) #[] #[]]) := by unfold kcells; rw [hV.out, hkl.out, hi1.out, hi2.out, hnm.out]; exact Lib.hid rfl
      have kc : ∀ q u, (kcells K ((j : Int) + 1))[q]? = some u → wr.cell? ⟨g, j * 6 + q, none⟩ = some u := fun q u hu => by
        have hq : q < 6 := by have := (List.getElem?_eq_some_iff.1 hu).1; simpa [kcells] using this
        refine kb.cell _ _ ?_
        clear hkc
        rcases (show j = 0 ∨ j = 1 ∨ j = 2 ∨ j = 3 ∨ j = 4 ∨ j = 5 by omega) with rfl | rfl | rfl | rfl | rfl | rfl <;>
          rcases (show q = 0 ∨ q = 1 ∨ q = 2 ∨ q = 3 ∨ q = 4 ∨ q = 5 by omega) with rfl | rfl | rfl | rfl | rfl | rfl <;> exact hu
      have d0 := kc 0 _ (by rw [hkc.out]; rfl)
      have d1 := kc 1 _ (by rw [hkc.out]; rfl)
      have d2 := kc 2 _ (by rw [hkc.out]; rfl)
      have d3 := kc 3 _ (by rw [hkc.out]; rfl)
      have d4 := kc 4 _ (by rw [hkc.out]; rfl)
      have d5 := kc 5 _ (by rw [hkc.out]; rfl)
      simp only [Nat.add_zero] at d0
      clear kc kb
      have HM := HN.out ((j : Int) + 1)
      rw [hkc.out] at HM
      by_cases h4 : fnm ((j : Int) + 1) = s0
      · rw [decide_eq_true h4] at HM
        have HM := Lib.hid HM
        have hRj : Hid (R = (j : Int)) := Lib.hid (by rw [← hR.out, ← h4, kindI_fnm ⟨by omega, by omega⟩]; omega)
        clear HN h4
        go_wp2_with (first
          | (go_at_call 60; refine HM.out.mono ?_; rintro e w2 ⟨rfl, hB2⟩)
          | fail)
        go_ret
        exact Ret.int (by rw [hRj.out]) (hB.trans (hB2.mono hB.size))
      · rw [decide_eq_false h4] at HM
        have HM := Lib.hid HM
        have hno2 : Hid (∀ q : Int, 1 ≤ q → q ≤ ((j + 1 : Nat) : Int) → fnm q ≠ s0) := Lib.hid (fun q h1 h2 => by
          rcases Int.lt_or_le (j : Int) q with h | h
          · obtain rfl : q = (j : Int) + 1 := by omega
            exact h4
          · exact hno.out q h1 h)
        clear HN h4 hno
        go_wp2_with (first
          | (go_at_call 60; refine HM.out.mono ?_; rintro e w2 ⟨rfl, hB2⟩)
          | fail)
        go_roundw
        case rel => exact ⟨j + 1, by omega, by go_num, hno2, hB.trans (hB2.mono hB.size)⟩
        case measure => simp [intOf]; omega
    · obtain rfl : j = 6 := by omega
      have hRj : Hid (R = -1) := Lib.hid (by rw [← hR.out, kindI_none (fun q h1 h2 => hno.out q h1 (by omega))]; omega)
      clear hno
      go_wp2_with fail
      go_ret
      exact Ret.int (by rw [hRj.out]) hB
end Go.Proofs.YtmfklcnocekdlaaGreatDoor

