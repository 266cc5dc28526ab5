/- compile.Print. -/
import Derived.Test.YtmfklcnocekdlaaGreatDoorPrint
import Derived.Test.YtmfklcnocekdlaaGreatDoorShelf
import Derived.Test.YtmfklcnocekdlaaGreatDoorOldA3
import Derived.Laws.EntriesVeiled
import Derived.Deep.RegionHeld3
set_option linter.unusedSimpArgs false
set_option linter.unusedVariables false
namespace Go.Proofs.YtmfklcnocekdlaaGreatDoor
open Go Go.RowKit Tor

/-- the name of a line -/
def nameB (a : Int) : List UInt8 := if a = 1 then [114, 101, 97, 99, 104] else if a = 2 then [115, 116, 105, 116, 99, 104] else [115, 101, 119]
def lineB (x : Tri) : List UInt8 := nameB x.a ++ 32 :: (Lib.decDigits x.b.toNat ++ (sufB x ++ [10]))
def badP (x : Tri) : Bool := decide (wordE x.s ≠ 0 ∨ x.b < 0 ∨ 22 < x.b)
def printR (l : List Tri) : List UInt8 × Int :=
  if 1000 < l.length then ([], 3) else if l.any unshB then ([], 2) else if l.any badP then ([], 6) else (l.flatMap lineB, 0)

theorem digits_any (i : Nat) (hi : i < 100) (w : World) : Calls Tryz.prog 34 #[.int .i64 i] w (Ret (.string ⟨(Lib.decDigits i).toArray⟩) w) := by
  go_enter Tryz.func34, Tryz.ntmps34
  go_wp2_with (first | (go_at_call 78; refine (Tryz.strconv_FormatInt_10_small i hi _).mono ?_; rintro e w1 ⟨rfl, rfl⟩) | fail)
  go_ret
  exact Ret.val rfl (Below.refl _ _)

theorem dd_len {i : Nat} (h : i < 100) : (Lib.decDigits i).length ≤ 2 := by
  by_cases h1 : i < 10
  · rw [Lib.decDigits_one h1]; simp
  · rw [Lib.decDigits_two h1 h]; simp
theorem suf_len {x : Tri} (h : x.s.size ≤ 16) : (sufB x).length ≤ 17 := by
  have : x.s.data.toList.length = x.s.size := rfl
  unfold sufB; split
  · split
    · simp
    · simp only [List.length_cons]; omega
  · simp
theorem nameB_len (a : Int) : (nameB a).length ≤ 6 := by
  unfold nameB; split
  · simp
  · split <;> simp
theorem wordE_len {s : ByteArray} (h : wordE s = 0) : s.size ≤ 16 := by
  unfold wordE at h
  rcases Nat.lt_or_ge 16 s.size with h' | h'
  · simp [h'] at h
  · exact h'
theorem badP_ok {x : Tri} (h : badP x = false) : wordE x.s = 0 ∧ 0 ≤ x.b ∧ x.b ≤ 22 := by
  unfold badP at h
  simp only [decide_eq_false_iff_not] at h
  refine ⟨Classical.byContradiction fun e => h (Or.inl e), ?_, ?_⟩
  · omega
  · omega
theorem line_len {x : Tri} (h : badP x = false) : (lineB x).length ≤ 27 := by
  obtain ⟨h1, h2, h3⟩ := badP_ok h
  have a := nameB_len x.a
  have b := dd_len (i := x.b.toNat) (by omega)
  have c := suf_len (wordE_len h1)
  simp only [lineB, List.length_append, List.length_cons, List.length_nil]
  omega
theorem lines_len (l : List Tri) {k : Nat} (h : (l.take k).any badP = false) : ∀ j, j ≤ k → ((l.take j).flatMap lineB).length ≤ j * 27
  | 0, _ => by simp
  | j + 1, hj => by
    have ih := lines_len l h j (by omega)
    by_cases hlt : j < l.length
    · rw [take_snoc l j hlt, List.flatMap_append, List.length_append]
      have hb : badP l[j] = false := by
        have := any_not h j (by simp; omega)
        simpa using this
      have := line_len hb
      simp only [List.flatMap_cons, List.flatMap_nil, List.append_nil]
      omega
    · rw [List.take_of_length_le (by omega)]
      rw [List.take_of_length_le (by omega)] at ih
      omega
theorem bareW_any (x : Tri) (w : World) (ha : x.a ≠ 2) :
    Calls Tryz.prog 71 #[.agg #[.int .i64 x.a, .int .i64 x.b, .string x.s]] w (Ret (.string ⟨(sufB x).toArray⟩) w) := by
  unfold sufB; rw [if_neg ha]; exact bare_any x w
theorem stitchW_any (x : Tri) (w : World) (hs : x.s.size ≤ 1000000) (ha : x.a = 2) :
    Calls Tryz.prog 73 #[.agg #[.int .i64 x.a, .int .i64 x.b, .string x.s]] w (Ret (.string ⟨(sufB x).toArray⟩) w) := by
  unfold sufB; rw [if_pos ha]; exact stitch_any x w hs
theorem digitsB_any (n : Int) (h0 : 0 ≤ n) (h1 : n ≤ 22) (w : World) : Calls Tryz.prog 34 #[.int .i64 n] w (Ret (.string ⟨(Lib.decDigits n.toNat).toArray⟩) w) := by
  have := digits_any n.toNat (by omega) w
  rwa [show ((n.toNat : Nat) : Int) = n by omega] at this
theorem indexKindN_any (g xb : Nat) (a n : Int) (w : World) (hk : Blk w g 64 kindCells) (hc : w.cell? ⟨xb, 0, none⟩ = some (.int .i64 a)) (ha : a = n + 1) (hn : n = 0 ∨ n = 1 ∨ n = 2) :
    Calls Tryz.prog 31 #[.slice (some ⟨g, 0, none⟩) 3 3, .func (.func 32) #[] #[.pointer (some ⟨xb, 0, none⟩)]] w (Ret (.int .i64 n) w) := by
  have := indexKind_any g xb a w hk hc (by omega)
  rwa [show a - 1 = n by omega] at this
set_option maxRecDepth 100000 in
set_option maxHeartbeats 4000000 in
theorem cprint_any (A : Option Addr) (l : List Tri) (c : Nat) (w : World) (H : Nat) (hr : RdT w H A l) (hH : H ≤ w.heap.size) (hl : l.length ≤ 9223372036854775807)
    (HW : ∀ j (h : j < l.length), l[j].s.size ≤ 9223372036854775807) :
    Calls Tryz.prog 7 #[.slice A l.length c] w fun e w' => e = .returned (.tuple #[.string ⟨(printR l).1.toArray⟩, .int .i64 (printR l).2]) ∧ Below w.heap.size w w' := by
  obtain ⟨wo, rfl⟩ : ∃ wo : World, wo = w := ⟨_, rfl⟩
  by_cases h1 : 1000 < l.length
  · have HR : Hid (printR l = ([], 3)) := by unfold printR; rw [if_pos h1]; rfl
    have h1' : (1000 : Int) < (l.length : Int) := by omega
    clear h1
    go_enter Tryz.func7, Tryz.ntmps7
    go_wp2_with fail
    go_ret2
    rw [HR.out]
    exact ⟨rfl, Below.refl _ _⟩
  have h1' : ¬ (1000 : Int) < (l.length : Int) := by omega
  cases h2 : l.any unshB
  rotate_left
  · have HR : Hid (printR l = ([], 2)) := by unfold printR; rw [if_neg h1, if_pos h2]; rfl
    have H2 := Lib.hid h2
    clear h2 h1
    go_enter Tryz.func7, Tryz.ntmps7
    go_wp2_with (first | (go_at_call 26; refine (containsStep_any A l _ _ H hr hH hl).mono ?_; rintro e w1 ⟨rfl, hB1⟩; rw [H2.out]) | fail)
    go_ret2
    rw [HR.out]
    exact ⟨rfl, hB1⟩
  · have HR : Hid (printR l = if l.any badP then ([], 6) else (l.flatMap lineB, 0)) := by unfold printR; rw [if_neg h1, if_neg (by rw [h2]; decide)]; rfl
    have H2 := Lib.hid h2
    clear h2
    go_enter Tryz.func7, Tryz.ntmps7
    go_wp2_with (first
      | (go_at_call 26; refine (containsStep_any A l _ _ H hr hH hl).mono ?_; rintro e w1 ⟨rfl, hB1⟩; rw [H2.out])
      | (go_at_call 29; refine (kinds_any _).mono ?_; rintro e w2 ⟨rfl, hK, hB2⟩)
      | fail)
    have hz1 := hB1.size
    have hz2 := hB2.size
    have gl := hK.lt
    have hBo : Below wo.heap.size wo w2 := hB1.trans (hB2.mono hz1)
    go_loopw [17] (fun i wr => ∃ j : Nat, j ≤ l.length ∧ i = .int .i64 j ∧ Hid ((l.take j).any badP = false) ∧ Blk wr w1.heap.size 64 kindCells ∧ IsB w2.heap.size w2.heap.size (Lib.byteCells ((l.take j).flatMap lineB)) wr ∧ Below w2.heap.size w2 wr) (fun i _ => l.length - (intOf i).toNat)
    case atStart =>
      refine ⟨0, Nat.zero_le _, rfl, Lib.hid rfl, ?_, ?_, ?_⟩
      · exact hK.alloc _
      · exact Lib.fresh_isBuilder _ _ _
      · (repeat' first | exact Below.refl _ _ | apply Below.drew | (refine Below.setCells ?_ _ _ ?_) | (refine Below.setCell ?_ ?_ _) | (refine Below.alloc ?_ ?_ _) | (simp; done) | (simp; omega))
    case round =>
      obtain ⟨j, hj, rfl, hno, hKr, hBr, hB⟩ := hrel
      have hzB := hB.size
      have hbl := hBr.lt
      have hBw : Below wo.heap.size wo wr := hBo.trans (hB.mono (Nat.le_trans hz1 hz2))
      by_cases hlt : j < l.length
      · obtain ⟨b, o, rfl, hb0, h0, h1', h2'⟩ := (hr.below' hBw hH).tri hlt
        have HWj := Lib.hid (HW j hlt)
        have hlb := lt_of_cell h0
        have k0 : (0 : Int) ≤ (j : Int) := by omega
        have k1 : (j : Int) < (l.length : Int) := by omega
        cases hbad : badP l[j]
        · have HB := Lib.hid hbad
          have hs0 := Lib.hid (any_not H2.out j hlt)
          unfold badP at hbad
          have hw0 : wordE l[j].s = 0 := by
            apply Classical.byContradiction; intro e; simp [e] at hbad
          have x1 : ¬ l[j].b < 0 := by intro e; simp [e] at hbad
          have x2 : ¬ 22 < l[j].b := by intro e; simp [e] at hbad
          have HE := Lib.hid hw0
          clear hbad hw0
          have hsh : shapedB l[j] = true := by have := hs0.out; unfold unshB at this; simpa using this
          have ha3 : l[j].a = 1 ∨ l[j].a = 2 ∨ l[j].a = 3 := by unfold shapedB at hsh; simp at hsh; omega
          have hW16 : l[j].s.size ≤ 16 := by
            have := HE.out; unfold wordE at this
            rcases Nat.lt_or_ge 16 l[j].s.size with h | h
            · simp [h] at this
            · exact h
          obtain ⟨D, hD⟩ : ∃ D : ByteArray, Hid ((⟨(Lib.decDigits l[j].b.toNat).toArray⟩ : ByteArray) = D) := ⟨_, Lib.hid rfl⟩
          obtain ⟨W, hW⟩ : ∃ W : ByteArray, Hid ((⟨(sufB l[j]).toArray⟩ : ByteArray) = W) := ⟨_, Lib.hid rfl⟩
          have hDs : D.size ≤ 2 := by rw [← hD.out]; simpa [ByteArray.size] using dd_len (i := l[j].b.toNat) (by omega)
          have hWs : W.size ≤ 17 := by rw [← hW.out]; simpa [ByteArray.size] using suf_len (x := l[j]) hW16
          have hprev : ((l.take j).flatMap lineB).length ≤ j * 27 := lines_len l hno.out j (Nat.le_refl _)
          have hprev' : (Lib.byteCells ((l.take j).flatMap lineB)).length ≤ j * 27 := by rw [Lib.byteCells_length]; exact hprev
          have HS := Lib.hid hsh
          have HL := Lib.hid hprev'
          have H16 := Lib.hid hW16
          clear hsh hprev hprev' hW16
          rcases ha3 with ha | ha | ha
          · have HA := Lib.hid ha
            clear ha
            have d1 : ¬ 9223372036854775807 < 6 + D.size := by omega
            have d2 : ¬ 9223372036854775807 < 6 + D.size + W.size := by omega
            have d3 : ¬ 9223372036854775807 < 6 + D.size + W.size + 1 := by omega
            have HN : Hid ((Lib.byteCells ((l.take j).flatMap lineB)).length + (((((⟨#[114, 101, 97, 99, 104]⟩ ++ ⟨#[32]⟩ : ByteArray) ++ D) ++ W) ++ ⟨#[10]⟩ : ByteArray)).size ≤ 140737488355328) := by
              have e1 : (⟨#[114, 101, 97, 99, 104]⟩ : ByteArray).size = 5 := rfl
              have e2 : (⟨#[32]⟩ : ByteArray).size = 1 := rfl
              have e3 : (⟨#[10]⟩ : ByteArray).size = 1 := rfl
              have e4 := HL.out
              rw [Hid, ByteArray.size_append, ByteArray.size_append, ByteArray.size_append, ByteArray.size_append, e1, e2, e3]
              omega
            go_wp2_with (first
              | (go_at_call 30; refine (word_any l[j].s _ HWj.out).mono ?_; rintro e w3 ⟨rfl, hB3⟩; rw [HE.out]
                 have kX := (Blk.new wr 52 #[.int .i64 l[j].a, .int .i64 l[j].b, .string l[j].s]).below' hB3
                 have hq3 : Below wr.heap.size wr w3 := Below.trans (b := wr.alloc (.cells #[.int .i64 l[j].a, .int .i64 l[j].b, .string l[j].s] 52)) (by (repeat' first | exact Below.refl _ _ | apply Below.drew | (refine Below.setCells ?_ _ _ ?_) | (refine Below.setCell ?_ ?_ _) | (refine Below.alloc ?_ ?_ _) | (simp; done) | (simp; omega))) (hB3.mono (by simp))
                 have kK := hKr.below' hq3
                 have a0 := kX.cell 0 (.int .i64 l[j].a) rfl
                 have a1 := kX.cell 1 (.int .i64 l[j].b) rfl
                 have a2 := kX.cell 2 (.string l[j].s) rfl
                 have a3 := kX.lt)
              | (go_at_call 31; refine (indexKindN_any w1.heap.size wr.heap.size l[j].a 0 _ kK a0 (by have := HA.out; omega) (by omega)).mono ?_; rintro e w4 ⟨rfl, hB4⟩
                 have kX4 := kX.below' hB4
                 have kK4 := kK.below' hB4
                 have b0 := kX4.cell 0 (.int .i64 l[j].a) rfl
                 have b1 := kX4.cell 1 (.int .i64 l[j].b) rfl
                 have b2 := kX4.cell 2 (.string l[j].s) rfl
                 have b3 := kX4.lt
                 have g0 := kK4.cell 0 (.string ⟨#[114, 101, 97, 99, 104]⟩) rfl
                 have g1 := kK4.cell 1 (.int .i64 1) rfl
                 have g2 := kK4.cell 2 (.func (.func 71) #[] #[]) rfl
                 have g3 := kK4.cell 3 (.func (.func 72) #[] #[]) rfl
                 have gz := kK4.lt)
              | fail)
            have hq4 : Below wr.heap.size wr w4 := hq3.trans (hB4.mono hq3.size)
            have kz4 := hq4.size
            have hI4 : IsB w2.heap.size w2.heap.size (Lib.byteCells ((l.take j).flatMap lineB)) w4 := hBr.below hq4
            go_region_held3 (fun w' => w'.cell? ⟨wr.heap.size, 0, none⟩ = some (.int .i64 l[j].a) ∧ w'.cell? ⟨wr.heap.size, 1, none⟩ = some (.int .i64 l[j].b) ∧ w'.cell? ⟨wr.heap.size, 2, none⟩ = some (.string l[j].s) ∧
                w'.cell? ⟨w4.heap.size, 0, none⟩ = some (.string ⟨#[114, 101, 97, 99, 104]⟩) ∧ w'.cell? ⟨w4.heap.size, 2, none⟩ = some (.func (.func 71) #[] #[])) (go_keep)
              (first
                | (go_at_call 34; refine (digitsB_any l[j].b (by omega) (by omega) _).mono ?_; rintro e w5 ⟨rfl, hB5⟩; rw [hD.out]
                   have kX5 := ((kX4.alloc (.cells #[.string ⟨#[114, 101, 97, 99, 104]⟩, .int .i64 1, .func (.func 71) #[] #[], .func (.func 72) #[] #[]] 64)).drew).below' hB5
                   have kN5 := ((Blk.new w4 64 #[.string ⟨#[114, 101, 97, 99, 104]⟩, .int .i64 1, .func (.func 71) #[] #[], .func (.func 72) #[] #[]]).drew).below' hB5
                   have s0 := kX5.cell 0 (.int .i64 l[j].a) rfl
                   have s1 := kX5.cell 1 (.int .i64 l[j].b) rfl
                   have s2 := kX5.cell 2 (.string l[j].s) rfl
                   have s3 := kN5.cell 0 (.string ⟨#[114, 101, 97, 99, 104]⟩) rfl
                   have s4 := kN5.cell 2 (.func (.func 71) #[] #[]) rfl
                   have hq5 : Below w4.heap.size w4 w5 := Below.trans (b := (w4.alloc (.cells #[.string ⟨#[114, 101, 97, 99, 104]⟩, .int .i64 1, .func (.func 71) #[] #[], .func (.func 72) #[] #[]] 64)).drew) (by (repeat' first | exact Below.refl _ _ | apply Below.drew | (refine Below.setCells ?_ _ _ ?_) | (refine Below.setCell ?_ ?_ _) | (refine Below.alloc ?_ ?_ _) | (simp; done) | (simp; omega))) (hB5.mono (by simp))
                   have hI5 := hI4.below hq5)
                | (go_at_call 71; refine (bareW_any l[j] _ (by have := HA.out; omega)).mono ?_; rintro e w6 ⟨rfl, hB6⟩; rw [hW.out]
                   have kX6 := kX5.below' hB6
                   have kN6 := kN5.below' hB6
                   have r0 := kX6.cell 0 (.int .i64 l[j].a) rfl
                   have r1 := kX6.cell 1 (.int .i64 l[j].b) rfl
                   have r2 := kX6.cell 2 (.string l[j].s) rfl
                   have r3 := kN6.cell 0 (.string ⟨#[114, 101, 97, 99, 104]⟩) rfl
                   have r4 := kN6.cell 2 (.func (.func 71) #[] #[]) rfl
                   have hq6 : Below w4.heap.size w4 w6 := hq5.trans (hB6.mono hq5.size)
                   have hI6 := hI5.below hB6
                   have hz6 := (hq4.trans (hq6.mono kz4)).size)
                | (go_at_call 33; refine (writeString_any w2.heap.size w2.heap.size _ _ _ hI6 HN.out (by omega)).mono ?_; rintro e w7 ⟨rfl, hI7, hB7, hk7⟩
                   have kX7 : Blk w7 wr.heap.size 52 #[.int .i64 l[j].a, .int .i64 l[j].b, .string l[j].s] := hk7 _ _ _ kX6 (by decide) (by omega)
                   have kN7 : Blk w7 w4.heap.size 64 #[.string ⟨#[114, 101, 97, 99, 104]⟩, .int .i64 1, .func (.func 71) #[] #[], .func (.func 72) #[] #[]] := hk7 _ _ _ kN6 (by decide) (by omega)
                   have t0 := kX7.cell 0 (.int .i64 l[j].a) rfl
                   have t1 := kX7.cell 1 (.int .i64 l[j].b) rfl
                   have t2 := kX7.cell 2 (.string l[j].s) rfl
                   have t3 := kN7.cell 0 (.string ⟨#[114, 101, 97, 99, 104]⟩) rfl
                   have t4 := kN7.cell 2 (.func (.func 71) #[] #[]) rfl)
                | fail)
            go_wp2_with fail
            go_roundw
            case rel =>
              refine ⟨j + 1, by omega, by go_num, any_snoc _ _ _ hlt hno.out HB.out, hKr.below (B := w2.heap.size) ((Below.mono (hq4.trans (hq6.mono kz4)) hzB).trans hB7) gl, ?_, hB.trans ((Below.mono (hq4.trans (hq6.mono kz4)) hzB).trans hB7)⟩
              rw [take_snoc l j hlt, List.flatMap_append, Lib.byteCells_append]
              have hline : Lib.byteCells ([l[j]].flatMap lineB) = Lib.strCells ((((⟨#[114, 101, 97, 99, 104]⟩ ++ ⟨#[32]⟩ : ByteArray) ++ D) ++ W) ++ ⟨#[10]⟩) := by
                rw [Lib.strCells_eq]
                congr 1
                rw [← hD.out, ← hW.out]
                simp [lineB, nameB, HA.out, ByteArray.data_append]
              rw [hline]
              exact hI7
            case measure => simp [intOf]; omega
          · have HA := Lib.hid ha
            clear ha
            have d1 : ¬ 9223372036854775807 < 7 + D.size := by omega
            have d2 : ¬ 9223372036854775807 < 7 + D.size + W.size := by omega
            have d3 : ¬ 9223372036854775807 < 7 + D.size + W.size + 1 := by omega
            have HN : Hid ((Lib.byteCells ((l.take j).flatMap lineB)).length + (((((⟨#[115, 116, 105, 116, 99, 104]⟩ ++ ⟨#[32]⟩ : ByteArray) ++ D) ++ W) ++ ⟨#[10]⟩ : ByteArray)).size ≤ 140737488355328) := by
              have e1 : (⟨#[115, 116, 105, 116, 99, 104]⟩ : ByteArray).size = 6 := rfl
              have e2 : (⟨#[32]⟩ : ByteArray).size = 1 := rfl
              have e3 : (⟨#[10]⟩ : ByteArray).size = 1 := rfl
              have e4 := HL.out
              rw [Hid, ByteArray.size_append, ByteArray.size_append, ByteArray.size_append, ByteArray.size_append, e1, e2, e3]
              omega
            go_wp2_with (first
              | (go_at_call 30; refine (word_any l[j].s _ HWj.out).mono ?_; rintro e w3 ⟨rfl, hB3⟩; rw [HE.out]
                 have kX := (Blk.new wr 52 #[.int .i64 l[j].a, .int .i64 l[j].b, .string l[j].s]).below' hB3
                 have hq3 : Below wr.heap.size wr w3 := Below.trans (b := wr.alloc (.cells #[.int .i64 l[j].a, .int .i64 l[j].b, .string l[j].s] 52)) (by (repeat' first | exact Below.refl _ _ | apply Below.drew | (refine Below.setCells ?_ _ _ ?_) | (refine Below.setCell ?_ ?_ _) | (refine Below.alloc ?_ ?_ _) | (simp; done) | (simp; omega))) (hB3.mono (by simp))
                 have kK := hKr.below' hq3
                 have a0 := kX.cell 0 (.int .i64 l[j].a) rfl
                 have a1 := kX.cell 1 (.int .i64 l[j].b) rfl
                 have a2 := kX.cell 2 (.string l[j].s) rfl
                 have a3 := kX.lt)
              | (go_at_call 31; refine (indexKindN_any w1.heap.size wr.heap.size l[j].a 1 _ kK a0 (by have := HA.out; omega) (by omega)).mono ?_; rintro e w4 ⟨rfl, hB4⟩
                 have kX4 := kX.below' hB4
                 have kK4 := kK.below' hB4
                 have b0 := kX4.cell 0 (.int .i64 l[j].a) rfl
                 have b1 := kX4.cell 1 (.int .i64 l[j].b) rfl
                 have b2 := kX4.cell 2 (.string l[j].s) rfl
                 have b3 := kX4.lt
                 have g0 := kK4.cell 4 (.string ⟨#[115, 116, 105, 116, 99, 104]⟩) rfl
                 have g1 := kK4.cell 5 (.int .i64 2) rfl
                 have g2 := kK4.cell 6 (.func (.func 73) #[] #[]) rfl
                 have g3 := kK4.cell 7 (.func (.func 74) #[] #[]) rfl
                 have gz := kK4.lt)
              | fail)
            have hq4 : Below wr.heap.size wr w4 := hq3.trans (hB4.mono hq3.size)
            have kz4 := hq4.size
            have hI4 : IsB w2.heap.size w2.heap.size (Lib.byteCells ((l.take j).flatMap lineB)) w4 := hBr.below hq4
            go_region_held3 (fun w' => w'.cell? ⟨wr.heap.size, 0, none⟩ = some (.int .i64 l[j].a) ∧ w'.cell? ⟨wr.heap.size, 1, none⟩ = some (.int .i64 l[j].b) ∧ w'.cell? ⟨wr.heap.size, 2, none⟩ = some (.string l[j].s) ∧
                w'.cell? ⟨w4.heap.size, 0, none⟩ = some (.string ⟨#[115, 116, 105, 116, 99, 104]⟩) ∧ w'.cell? ⟨w4.heap.size, 2, none⟩ = some (.func (.func 73) #[] #[])) (go_keep)
              (first
                | (go_at_call 34; refine (digitsB_any l[j].b (by omega) (by omega) _).mono ?_; rintro e w5 ⟨rfl, hB5⟩; rw [hD.out]
                   have kX5 := ((kX4.alloc (.cells #[.string ⟨#[115, 116, 105, 116, 99, 104]⟩, .int .i64 2, .func (.func 73) #[] #[], .func (.func 74) #[] #[]] 64)).drew).below' hB5
                   have kN5 := ((Blk.new w4 64 #[.string ⟨#[115, 116, 105, 116, 99, 104]⟩, .int .i64 2, .func (.func 73) #[] #[], .func (.func 74) #[] #[]]).drew).below' hB5
                   have s0 := kX5.cell 0 (.int .i64 l[j].a) rfl
                   have s1 := kX5.cell 1 (.int .i64 l[j].b) rfl
                   have s2 := kX5.cell 2 (.string l[j].s) rfl
                   have s3 := kN5.cell 0 (.string ⟨#[115, 116, 105, 116, 99, 104]⟩) rfl
                   have s4 := kN5.cell 2 (.func (.func 73) #[] #[]) rfl
                   have hq5 : Below w4.heap.size w4 w5 := Below.trans (b := (w4.alloc (.cells #[.string ⟨#[115, 116, 105, 116, 99, 104]⟩, .int .i64 2, .func (.func 73) #[] #[], .func (.func 74) #[] #[]] 64)).drew) (by (repeat' first | exact Below.refl _ _ | apply Below.drew | (refine Below.setCells ?_ _ _ ?_) | (refine Below.setCell ?_ ?_ _) | (refine Below.alloc ?_ ?_ _) | (simp; done) | (simp; omega))) (hB5.mono (by simp))
                   have hI5 := hI4.below hq5)
                | (go_at_call 73; refine (stitchW_any l[j] _ (by have := H16.out; omega) HA.out).mono ?_; rintro e w6 ⟨rfl, hB6⟩; rw [hW.out]
                   have kX6 := kX5.below' hB6
                   have kN6 := kN5.below' hB6
                   have r0 := kX6.cell 0 (.int .i64 l[j].a) rfl
                   have r1 := kX6.cell 1 (.int .i64 l[j].b) rfl
                   have r2 := kX6.cell 2 (.string l[j].s) rfl
                   have r3 := kN6.cell 0 (.string ⟨#[115, 116, 105, 116, 99, 104]⟩) rfl
                   have r4 := kN6.cell 2 (.func (.func 73) #[] #[]) rfl
                   have hq6 : Below w4.heap.size w4 w6 := hq5.trans (hB6.mono hq5.size)
                   have hI6 := hI5.below hB6
                   have hz6 := (hq4.trans (hq6.mono kz4)).size)
                | (go_at_call 33; refine (writeString_any w2.heap.size w2.heap.size _ _ _ hI6 HN.out (by omega)).mono ?_; rintro e w7 ⟨rfl, hI7, hB7, hk7⟩
                   have kX7 : Blk w7 wr.heap.size 52 #[.int .i64 l[j].a, .int .i64 l[j].b, .string l[j].s] := hk7 _ _ _ kX6 (by decide) (by omega)
                   have kN7 : Blk w7 w4.heap.size 64 #[.string ⟨#[115, 116, 105, 116, 99, 104]⟩, .int .i64 2, .func (.func 73) #[] #[], .func (.func 74) #[] #[]] := hk7 _ _ _ kN6 (by decide) (by omega)
                   have t0 := kX7.cell 0 (.int .i64 l[j].a) rfl
                   have t1 := kX7.cell 1 (.int .i64 l[j].b) rfl
                   have t2 := kX7.cell 2 (.string l[j].s) rfl
                   have t3 := kN7.cell 0 (.string ⟨#[115, 116, 105, 116, 99, 104]⟩) rfl
                   have t4 := kN7.cell 2 (.func (.func 73) #[] #[]) rfl)
                | fail)
            go_wp2_with fail
            go_roundw
            case rel =>
              refine ⟨j + 1, by omega, by go_num, any_snoc _ _ _ hlt hno.out HB.out, hKr.below (B := w2.heap.size) ((Below.mono (hq4.trans (hq6.mono kz4)) hzB).trans hB7) gl, ?_, hB.trans ((Below.mono (hq4.trans (hq6.mono kz4)) hzB).trans hB7)⟩
              rw [take_snoc l j hlt, List.flatMap_append, Lib.byteCells_append]
              have hline : Lib.byteCells ([l[j]].flatMap lineB) = Lib.strCells ((((⟨#[115, 116, 105, 116, 99, 104]⟩ ++ ⟨#[32]⟩ : ByteArray) ++ D) ++ W) ++ ⟨#[10]⟩) := by
                rw [Lib.strCells_eq]
                congr 1
                rw [← hD.out, ← hW.out]
                simp [lineB, nameB, HA.out, ByteArray.data_append]
              rw [hline]
              exact hI7
            case measure => simp [intOf]; omega
          · have HA := Lib.hid ha
            clear ha
            have d1 : ¬ 9223372036854775807 < 4 + D.size := by omega
            have d2 : ¬ 9223372036854775807 < 4 + D.size + W.size := by omega
            have d3 : ¬ 9223372036854775807 < 4 + D.size + W.size + 1 := by omega
            have HN : Hid ((Lib.byteCells ((l.take j).flatMap lineB)).length + (((((⟨#[115, 101, 119]⟩ ++ ⟨#[32]⟩ : ByteArray) ++ D) ++ W) ++ ⟨#[10]⟩ : ByteArray)).size ≤ 140737488355328) := by
              have e1 : (⟨#[115, 101, 119]⟩ : ByteArray).size = 3 := rfl
              have e2 : (⟨#[32]⟩ : ByteArray).size = 1 := rfl
              have e3 : (⟨#[10]⟩ : ByteArray).size = 1 := rfl
              have e4 := HL.out
              rw [Hid, ByteArray.size_append, ByteArray.size_append, ByteArray.size_append, ByteArray.size_append, e1, e2, e3]
              omega
            go_wp2_with (first
              | (go_at_call 30; refine (word_any l[j].s _ HWj.out).mono ?_; rintro e w3 ⟨rfl, hB3⟩; rw [HE.out]
                 have kX := (Blk.new wr 52 #[.int .i64 l[j].a, .int .i64 l[j].b, .string l[j].s]).below' hB3
                 have hq3 : Below wr.heap.size wr w3 := Below.trans (b := wr.alloc (.cells #[.int .i64 l[j].a, .int .i64 l[j].b, .string l[j].s] 52)) (by (repeat' first | exact Below.refl _ _ | apply Below.drew | (refine Below.setCells ?_ _ _ ?_) | (refine Below.setCell ?_ ?_ _) | (refine Below.alloc ?_ ?_ _) | (simp; done) | (simp; omega))) (hB3.mono (by simp))
                 have kK := hKr.below' hq3
                 have a0 := kX.cell 0 (.int .i64 l[j].a) rfl
                 have a1 := kX.cell 1 (.int .i64 l[j].b) rfl
                 have a2 := kX.cell 2 (.string l[j].s) rfl
                 have a3 := kX.lt)
              | (go_at_call 31; refine (indexKindN_any w1.heap.size wr.heap.size l[j].a 2 _ kK a0 (by have := HA.out; omega) (by omega)).mono ?_; rintro e w4 ⟨rfl, hB4⟩
                 have kX4 := kX.below' hB4
                 have kK4 := kK.below' hB4
                 have b0 := kX4.cell 0 (.int .i64 l[j].a) rfl
                 have b1 := kX4.cell 1 (.int .i64 l[j].b) rfl
                 have b2 := kX4.cell 2 (.string l[j].s) rfl
                 have b3 := kX4.lt
                 have g0 := kK4.cell 8 (.string ⟨#[115, 101, 119]⟩) rfl
                 have g1 := kK4.cell 9 (.int .i64 3) rfl
                 have g2 := kK4.cell 10 (.func (.func 71) #[] #[]) rfl
                 have g3 := kK4.cell 11 (.func (.func 72) #[] #[]) rfl
                 have gz := kK4.lt)
              | fail)
            have hq4 : Below wr.heap.size wr w4 := hq3.trans (hB4.mono hq3.size)
            have kz4 := hq4.size
            have hI4 : IsB w2.heap.size w2.heap.size (Lib.byteCells ((l.take j).flatMap lineB)) w4 := hBr.below hq4
            go_region_held3 (fun w' => w'.cell? ⟨wr.heap.size, 0, none⟩ = some (.int .i64 l[j].a) ∧ w'.cell? ⟨wr.heap.size, 1, none⟩ = some (.int .i64 l[j].b) ∧ w'.cell? ⟨wr.heap.size, 2, none⟩ = some (.string l[j].s) ∧
                w'.cell? ⟨w4.heap.size, 0, none⟩ = some (.string ⟨#[115, 101, 119]⟩) ∧ w'.cell? ⟨w4.heap.size, 2, none⟩ = some (.func (.func 71) #[] #[])) (go_keep)
              (first
                | (go_at_call 34; refine (digitsB_any l[j].b (by omega) (by omega) _).mono ?_; rintro e w5 ⟨rfl, hB5⟩; rw [hD.out]
                   have kX5 := ((kX4.alloc (.cells #[.string ⟨#[115, 101, 119]⟩, .int .i64 3, .func (.func 71) #[] #[], .func (.func 72) #[] #[]] 64)).drew).below' hB5
                   have kN5 := ((Blk.new w4 64 #[.string ⟨#[115, 101, 119]⟩, .int .i64 3, .func (.func 71) #[] #[], .func (.func 72) #[] #[]]).drew).below' hB5
                   have s0 := kX5.cell 0 (.int .i64 l[j].a) rfl
                   have s1 := kX5.cell 1 (.int .i64 l[j].b) rfl
                   have s2 := kX5.cell 2 (.string l[j].s) rfl
                   have s3 := kN5.cell 0 (.string ⟨#[115, 101, 119]⟩) rfl
                   have s4 := kN5.cell 2 (.func (.func 71) #[] #[]) rfl
                   have hq5 : Below w4.heap.size w4 w5 := Below.trans (b := (w4.alloc (.cells #[.string ⟨#[115, 101, 119]⟩, .int .i64 3, .func (.func 71) #[] #[], .func (.func 72) #[] #[]] 64)).drew) (by (repeat' first | exact Below.refl _ _ | apply Below.drew | (refine Below.setCells ?_ _ _ ?_) | (refine Below.setCell ?_ ?_ _) | (refine Below.alloc ?_ ?_ _) | (simp; done) | (simp; omega))) (hB5.mono (by simp))
                   have hI5 := hI4.below hq5)
                | (go_at_call 71; refine (bareW_any l[j] _ (by have := HA.out; omega)).mono ?_; rintro e w6 ⟨rfl, hB6⟩; rw [hW.out]
                   have kX6 := kX5.below' hB6
                   have kN6 := kN5.below' hB6
                   have r0 := kX6.cell 0 (.int .i64 l[j].a) rfl
                   have r1 := kX6.cell 1 (.int .i64 l[j].b) rfl
                   have r2 := kX6.cell 2 (.string l[j].s) rfl
                   have r3 := kN6.cell 0 (.string ⟨#[115, 101, 119]⟩) rfl
                   have r4 := kN6.cell 2 (.func (.func 71) #[] #[]) rfl
                   have hq6 : Below w4.heap.size w4 w6 := hq5.trans (hB6.mono hq5.size)
                   have hI6 := hI5.below hB6
                   have hz6 := (hq4.trans (hq6.mono kz4)).size)
                | (go_at_call 33; refine (writeString_any w2.heap.size w2.heap.size _ _ _ hI6 HN.out (by omega)).mono ?_; rintro e w7 ⟨rfl, hI7, hB7, hk7⟩
                   have kX7 : Blk w7 wr.heap.size 52 #[.int .i64 l[j].a, .int .i64 l[j].b, .string l[j].s] := hk7 _ _ _ kX6 (by decide) (by omega)
                   have kN7 : Blk w7 w4.heap.size 64 #[.string ⟨#[115, 101, 119]⟩, .int .i64 3, .func (.func 71) #[] #[], .func (.func 72) #[] #[]] := hk7 _ _ _ kN6 (by decide) (by omega)
                   have t0 := kX7.cell 0 (.int .i64 l[j].a) rfl
                   have t1 := kX7.cell 1 (.int .i64 l[j].b) rfl
                   have t2 := kX7.cell 2 (.string l[j].s) rfl
                   have t3 := kN7.cell 0 (.string ⟨#[115, 101, 119]⟩) rfl
                   have t4 := kN7.cell 2 (.func (.func 71) #[] #[]) rfl)
                | fail)
            go_wp2_with fail
            go_roundw
            case rel =>
              refine ⟨j + 1, by omega, by go_num, any_snoc _ _ _ hlt hno.out HB.out, hKr.below (B := w2.heap.size) ((Below.mono (hq4.trans (hq6.mono kz4)) hzB).trans hB7) gl, ?_, hB.trans ((Below.mono (hq4.trans (hq6.mono kz4)) hzB).trans hB7)⟩
              rw [take_snoc l j hlt, List.flatMap_append, Lib.byteCells_append]
              have hline : Lib.byteCells ([l[j]].flatMap lineB) = Lib.strCells ((((⟨#[115, 101, 119]⟩ ++ ⟨#[32]⟩ : ByteArray) ++ D) ++ W) ++ ⟨#[10]⟩) := by
                rw [Lib.strCells_eq]
                congr 1
                rw [← hD.out, ← hW.out]
                simp [lineB, nameB, HA.out, ByteArray.data_append]
              rw [hline]
              exact hI7
            case measure => simp [intOf]; omega
        · have HB := Lib.hid hbad
          have HP : Hid (printR l = ([], 6)) := by rw [Hid, HR.out, if_pos (any_at _ _ j hlt hbad)]
          unfold badP at hbad
          simp only [decide_eq_true_eq] at hbad
          by_cases hw0 : wordE l[j].s = 0
          · have HE := Lib.hid hw0
            by_cases x1 : l[j].b < 0
            · clear hbad hw0
              go_wp2_with (first
                | (go_at_call 30; refine (word_any l[j].s _ HWj.out).mono ?_; rintro e w3 ⟨rfl, hB3⟩; rw [HE.out]
                   have kX := (Blk.new wr 52 #[.int .i64 l[j].a, .int .i64 l[j].b, .string l[j].s]).below' hB3
                   have hq3 : Below wr.heap.size wr w3 := Below.trans (b := wr.alloc (.cells #[.int .i64 l[j].a, .int .i64 l[j].b, .string l[j].s] 52)) (by (repeat' first | exact Below.refl _ _ | apply Below.drew | (refine Below.setCells ?_ _ _ ?_) | (refine Below.setCell ?_ ?_ _) | (refine Below.alloc ?_ ?_ _) | (simp; done) | (simp; omega))) (hB3.mono (by simp))
                   have a0 := kX.cell 0 (.int .i64 l[j].a) rfl
                   have a1 := kX.cell 1 (.int .i64 l[j].b) rfl
                   have a2 := kX.cell 2 (.string l[j].s) rfl
                   have a3 := kX.lt)
                | fail)
              go_ret2
              rw [HP.out]
              exact ⟨rfl, hBw.trans (hq3.mono hBw.size)⟩
            · have x2 : 22 < l[j].b := by
                rcases hbad with h | h | h
                · exact absurd hw0 h
                · exact absurd h x1
                · exact h
              clear hbad hw0
              go_wp2_with (first
                | (go_at_call 30; refine (word_any l[j].s _ HWj.out).mono ?_; rintro e w3 ⟨rfl, hB3⟩; rw [HE.out]
                   have kX := (Blk.new wr 52 #[.int .i64 l[j].a, .int .i64 l[j].b, .string l[j].s]).below' hB3
                   have hq3 : Below wr.heap.size wr w3 := Below.trans (b := wr.alloc (.cells #[.int .i64 l[j].a, .int .i64 l[j].b, .string l[j].s] 52)) (by (repeat' first | exact Below.refl _ _ | apply Below.drew | (refine Below.setCells ?_ _ _ ?_) | (refine Below.setCell ?_ ?_ _) | (refine Below.alloc ?_ ?_ _) | (simp; done) | (simp; omega))) (hB3.mono (by simp))
                   have a0 := kX.cell 0 (.int .i64 l[j].a) rfl
                   have a1 := kX.cell 1 (.int .i64 l[j].b) rfl
                   have a2 := kX.cell 2 (.string l[j].s) rfl
                   have a3 := kX.lt)
                | fail)
              go_ret2
              rw [HP.out]
              exact ⟨rfl, hBw.trans (hq3.mono hBw.size)⟩
          · obtain ⟨E, HE⟩ : ∃ E, Hid (wordE l[j].s = E) := ⟨_, Lib.hid rfl⟩
            rw [HE.out] at hw0
            have tw : (E != 0) = true := by simp [hw0]
            clear hbad hw0
            go_wp2_with (first
              | (go_at_call 30; refine (word_any l[j].s _ HWj.out).mono ?_; rintro e w3 ⟨rfl, hB3⟩; rw [HE.out]
                 have kX := (Blk.new wr 52 #[.int .i64 l[j].a, .int .i64 l[j].b, .string l[j].s]).below' hB3
                 have hq3 : Below wr.heap.size wr w3 := Below.trans (b := wr.alloc (.cells #[.int .i64 l[j].a, .int .i64 l[j].b, .string l[j].s] 52)) (by (repeat' first | exact Below.refl _ _ | apply Below.drew | (refine Below.setCells ?_ _ _ ?_) | (refine Below.setCell ?_ ?_ _) | (refine Below.alloc ?_ ?_ _) | (simp; done) | (simp; omega))) (hB3.mono (by simp))
                 have a0 := kX.cell 0 (.int .i64 l[j].a) rfl
                 have a1 := kX.cell 1 (.int .i64 l[j].b) rfl
                 have a2 := kX.cell 2 (.string l[j].s) rfl
                 have a3 := kX.lt)
              | fail)
            go_ret2
            rw [HP.out]
            exact ⟨rfl, hBw.trans (hq3.mono hBw.size)⟩
      · have HF : (printR l) = (l.flatMap lineB, 0) := by
          rw [HR.out, if_neg (by rw [any_end _ _ j hlt hno.out]; decide)]
        have HF' := Lib.hid HF
        clear HF
        rw [take_all _ _ hlt] at hBr
        go_wp2_with (first
          | (go_at_call 35; refine (Tryz.Builder_String_any w2.heap.size w2.heap.size _ _ hBr hzB).mono ?_; rintro e w5 ⟨rfl, hB5⟩)
          | fail)
        go_ret2
        rw [HF'.out]
        exact ⟨rfl, hBo.trans ((hB.trans hB5).mono (Nat.le_trans hz1 hz2))⟩
end Go.Proofs.YtmfklcnocekdlaaGreatDoor
