/- Merged: DDraw DDrawH DDraw2. -/
import Derived.Test.YtoccplfnjammjaaGreatDoorLooksA
import Derived.Test.YtoccplfnjammjaaGreatDoorDClone
import Derived.Test.YtoccplfnjammjaaGreatDoorDDig
import Derived.Lib.OthersKept
set_option linter.unusedSimpArgs false
set_option linter.unusedVariables false
namespace Go.Proofs.YtoccplfnjammjaaGreatDoor
open Go Go.RowKit Tor

theorem linesD_len (p : Nat) (l : List Tri) : (linesD p l).length = 1 + (looksL (sheetD p l)).length + (rowsS p l).length := by
  unfold linesD letsL
  simp only [List.length_cons, List.length_append, List.length_map, List.length_range]
  omega
theorem linesD_head (p : Nat) (l : List Tri) : (linesD p l)[0]? = some (headL p (rowsS p l).length) := rfl
theorem linesD_let (p : Nat) (l : List Tri) (k : Nat) (hk : k < (looksL (sheetD p l)).length) : (linesD p l)[k + 1]? = some (letL k (looksL (sheetD p l))[k]) := by
  unfold linesD letsL
  rw [List.getElem?_cons_succ, List.getElem?_append_left (by simpa using hk), List.getElem?_map, List.getElem?_range hk]
  simp only [Option.map_some, Option.some.injEq, Nat.zero_add]
  congr 1
  rw [List.getD_eq_getElem?_getD, List.getElem?_eq_getElem hk]; rfl
theorem linesD_row (p : Nat) (l : List Tri) (j : Nat) (hj : j < (rowsS p l).length) : (linesD p l)[(looksL (sheetD p l)).length + j + 1]? = some (drawR p l (looksL (sheetD p l)) (rowsS p l)[j]) := by
  unfold linesD letsL
  rw [List.getElem?_cons_succ, List.getElem?_append_right (by simp), List.length_map, List.length_range, Nat.add_sub_cancel_left, List.getElem?_map, List.getElem?_eq_getElem hj]; rfl
theorem itoa_len (n : Nat) (h : n < 100000) : (Lib.itoa (n : Int)).length ≤ 20 := by
  unfold Lib.itoa
  rw [if_neg (by omega)]
  have : ∀ k m, m < 10 ^ k → (Lib.decDigits m).length ≤ k + 1 := by
    intro k
    induction k with
    | zero => intro m hm; rw [Lib.decDigits_one (by omega)]; simp
    | succ k ih =>
      intro m hm
      by_cases h10 : m < 10
      · rw [Lib.decDigits_one h10]; simp
      · rw [Lib.decDigits, dif_neg h10, List.length_append]
        have := ih (m / 10) (by rw [Nat.pow_succ] at hm; omega)
        simp; omega
  have := this 5 (n : Int).toNat (by simp; omega)
  omega
theorem looks16 {p : Nat} {l : List Tri} (ok : OkD p l) {x : List UInt8} (h : x ∈ looksL (sheetD p l)) : x.length ≤ 16 := by
  rcases (looksF_mem (sheetD p l) [] x).1 h with h | ⟨y, hy, rfl⟩
  · cases h
  · exact lookB_len (ok.words y (pick_mem (fun r hr' => row_in hr') hy))
theorem drawR_len (p : Nat) (l : List Tri) (L : List (List UInt8)) (r : List Nat) : (drawR p l L r).length = 2 * p - 1 := by unfold drawR; simp
theorem linesD_60 {p : Nat} {l : List Tri} (ok : OkD p l) : ∀ s ∈ linesD p l, s.length ≤ 60 := by
  intro s hs
  have h24 := ok.p24
  have hl := ok.len
  have hr := rowsS_len p l
  unfold linesD at hs
  rcases List.mem_cons.1 hs with rfl | hs
  · unfold headL
    have h1 := itoa_len p (by omega)
    have h2 := itoa_len (rowsS p l).length (by omega)
    simp only [List.length_append, List.length_cons, List.length_nil]
    omega
  · rcases List.mem_append.1 hs with hs | hs
    · unfold letsL at hs
      obtain ⟨k, hk, rfl⟩ := List.mem_map.1 hs
      have hk' := List.mem_range.1 hk
      unfold letL
      have h3 : ((looksL (sheetD p l)).getD k []).length ≤ 16 := by
        rw [List.getD_eq_getElem?_getD, List.getElem?_eq_getElem hk']
        exact looks16 ok (List.getElem_mem hk')
      simp only [List.length_append, List.length_cons, List.length_nil]
      omega
    · obtain ⟨r, _, rfl⟩ := List.mem_map.1 hs
      rw [drawR_len]; omega
theorem joinL_len : ∀ (X : List (List UInt8)), (∀ s ∈ X, s.length ≤ 60) → (joinL X).length ≤ 61 * X.length
  | [], _ => by simp [joinL]
  | s :: r, h => by
    have h1 := joinL_len r (fun x hx => h x (by simp [hx]))
    have h2 := h s (by simp)
    have e : joinL (s :: r) = s ++ [10] ++ joinL r := by unfold joinL; simp
    rw [e]
    simp only [List.length_append, List.length_cons, List.length_nil]
    omega
/-- the text so far -/
def partD (p : Nat) (l : List Tri) (k : Nat) : List UInt8 := joinL ((linesD p l).take k)
theorem partD_len {p : Nat} {l : List Tri} (ok : OkD p l) (h52 : (looksL (sheetD p l)).length ≤ 52) (k : Nat) : (partD p l k).length ≤ 30000 := by
  have h1 := joinL_len ((linesD p l).take k) (fun s hs => linesD_60 ok s (List.mem_of_mem_take hs))
  have h2 := linesD_len p l
  have h3 := rowsS_len p l
  have h4 := ok.len
  have h5 : ((linesD p l).take k).length ≤ (linesD p l).length := by rw [List.length_take]; omega
  unfold partD
  omega
theorem partD_next (p : Nat) (l : List Tri) (k : Nat) (s : List UInt8) (h : (linesD p l)[k]? = some s) : partD p l (k + 1) = partD p l k ++ (s ++ [10]) := by
  obtain ⟨hk, e⟩ := List.getElem?_eq_some_iff.1 h
  unfold partD
  rw [take_snoc _ k hk, joinL_snoc, e]
theorem partD_all (p : Nat) (l : List Tri) : partD p l (1 + (looksL (sheetD p l)).length + (rowsS p l).length) = textD p l := by
  unfold partD textD
  rw [← linesD_len, List.take_length]
theorem blanks1 (a : List UInt8) : blanksL [a] = a := by unfold blanksL; simp [Lib.join]
theorem blanks3 (a b c : List UInt8) : blanksL [a, b, c] = a ++ 32 :: (b ++ 32 :: c) := by unfold blanksL; simp [Lib.join]
/-- what Draw returns of a sheet -/
def drawE (p : Nat) (l : List Tri) : List UInt8 × Int := if 52 < (looksL (sheetD p l)).length then ([], 5) else (textD p l, 0)
theorem letter_cut (n : Nat) (hn : n < 52) (W : World) : (Instr.slice 9 (.string (⟨#[65, 66, 67, 68, 69, 70, 71, 72, 73, 74, 75, 76, 77, 78, 79, 80, 81, 82, 83, 84, 85, 86, 87, 88, 89, 90, 97, 98, 99, 100, 101, 102, 103, 104, 105, 106, 107, 108, 109, 110, 111, 112, 113, 114, 115, 116, 117, 118, 119, 120, 121, 122]⟩ : ByteArray)) (some (.int .i64 (n : Int))) (some (.int .i64 ((n : Int) + 1))) none).run Tryz.prog W = .ok (.string (bN [letN n])) W := by
  have h2 : n < lettersL.length := by rw [letters_len]; exact hn
  have h3 : lettersL[n] = letN n := by
    have := letters_get n hn
    rw [List.getElem?_eq_getElem h2] at this
    simpa using this
  have := rangeSl lettersL n (n + 1) (by omega) (by omega) (by rw [letters_len]; omega) [letN n] (by
    rw [take_snoc lettersL n h2, List.drop_append_of_le_length (by rw [List.length_take]; omega), h3, List.drop_of_length_le (by rw [List.length_take]; omega)]; rfl) W
  rw [show ((n : Int) + 1) = ((n + 1 : Nat) : Int) by omega, ← letters_bN]
  exact this
theorem isB_new (w : World) : IsB w.heap.size w.heap.size (Lib.byteCells []) (w.alloc (.cells #[.pointer none, .slice none 0 0] 87)) :=
  .inl ⟨Nat.le_refl _, .slice none 0 0, heap_alloc_new _ _, World.ownsRow_nil _ _ _ _, by simp [Value.ownBlock]⟩
theorem draw_bad (p : Int) (A : Option Addr) (l : List Tri) (c : Nat) (w : World) (H : Nat) (hr : RdT w H A l) (hH : H ≤ w.heap.size)
    (hw : ∀ (k : Nat) (hk : k < l.length), l[k].s.size ≤ 9223372036854775807) (hl : l.length ≤ 1000000) (he : sheetE p l ≠ 0) :
    Calls Tryz.prog 14 #[.agg #[.int .i64 p, .slice A l.length c]] w (Ret (.tuple #[.string (bN []), .int .i64 (sheetE p l)]) w) := by
  have hB0 : Below w.heap.size w (w.alloc (.cells #[.int .i64 p, .slice A l.length c] 25)) := (Below.refl _ _).alloc (Nat.le_refl _) _
  have HSH := Lib.hid (drows_bad p A l c (w.alloc (.cells #[.int .i64 p, .slice A l.length c] 25)) H (hr.below' hB0 hH) (Nat.le_trans hH hB0.size) hw hl he)
  generalize sheetE p l = E at *
  have hE := bad_ne he
  go_enter Tryz.func14, Tryz.ntmps14
  go_wp2_with (first | (go_at_call 18; refine HSH.out.mono ?_; rintro e w1 ⟨rfl, hB1⟩) | fail)
  go_ret2
  exact ⟨rfl, hB0.trans (hB1.mono hB0.size)⟩
end Go.Proofs.YtoccplfnjammjaaGreatDoor

namespace Go.Proofs.YtoccplfnjammjaaGreatDoor
open Go Go.RowKit Tor Go.Maps

theorem addr0 (g j : Nat) : (⟨g, 0, none⟩ : Addr).add j = ⟨g, j, none⟩ := by unfold Addr.add; split <;> simp_all
theorem MapL.get {L : List (List UInt8)} {w : World} {mb n : Nat} (h : MapL L w mb n) (x : List UInt8) (hx : x.length ≤ maxLen) (hh : hasB L x = true) :
    (Instr.lookup 81 (.map (some mb)) (.string (bN x)) false).run Tryz.prog w = .ok (.int .u8 ((letN (idxB L x)).toNat : Int)) w := by
  obtain ⟨D, h1, h2⟩ := h
  obtain ⟨c, hr, hc, _⟩ := h1.lookup_int keyed_str Tryz.underlying81 Tryz.underlying5 (zeroByte _) (key_str x hx)
  rw [(h2 x).2 hh] at hc
  have : c = ((letN (idxB L x)).toNat : Int) := by simpa using hc.symm
  rw [this] at hr
  exact hr
theorem step_copy3 {ops : Array Oper} {o : Oper} {a : Act} {W : World} {K : Act → World → Prop} {Q : Exit → Act → World → Prop} {E : Prop} (hgd : o.guard = none) (d s : Operand)
    (ho : o.op = .call { callee := .builtin .copy, args := #[d, s], argTypes := #[85, 85] }) (base gt n c t gs : Nat) (L : List UInt8) (x : UInt8)
    (hd : a.eval d = .slice (some ⟨gt, t, none⟩) 3 3) (hs : a.eval s = .slice (some ⟨gs, 0, none⟩) 3 3)
    (hown : Own 1 uenc W base 5 (.slice (some ⟨gt, 0, none⟩) n c) L) (ha : t + 3 ≤ n) (hne : gs ≠ gt)
    (s0 : W.cell? ⟨gs, 0, none⟩ = some (.int .u8 40)) (s1 : W.cell? ⟨gs, 1, none⟩ = some (.int .u8 (x.toNat : Int))) (s2 : W.cell? ⟨gs, 2, none⟩ = some (.int .u8 41))
    (h : ∀ W', Own 1 uenc W' base 5 (.slice (some ⟨gt, 0, none⟩) n c) (over3 L t x) → W.grownBy W' (some gt) → K (a.put o.dst (goInt 3)) W') :
    if Region.wanted o (yielded ops a.tmps) = true then Oper.wp Tryz.prog o a W K Q else E := by
  have hw : Region.wanted o (yielded ops a.tmps) = true := by simp [Region.wanted, hgd]
  rw [if_pos hw]
  obtain ⟨W', hrun, h1, h2⟩ := copy3 W base gt n c t gs 3 L x o.type hown ha hne s0 s1 s2
  unfold Oper.wp
  simp [execOp, ho, resolve, invoke, builtin, hd, hs, hrun, Result.andThen]
  exact h _ h1 h2
theorem cutB_all (W : World) (g n c k : Nat) (hk : k ≤ c) (h0 : 0 < k) : (Instr.slice 85 (.slice (some ⟨g, 0, none⟩) n c) none (some (.int .i64 (k : Int))) (some (.int .i64 (k : Int)))).run Tryz.prog W = .ok (.slice (some ⟨g, 0, none⟩) k k) W := by
  have ht' : Tryz.prog.underlying 85 = some (.slice (Tryz.prog.elem 85)) := by rw [Program.elem, Tryz.underlying85]
  have he : Tryz.prog.elem 85 = 5 := by rw [Program.elem, Tryz.underlying85]
  rw [run_slice_hm W 85 _ _ _ ht' .i64 .i64 _ _ (by omega) (by omega) (by omega), he, Tryz.sizeOf5]
  have hne : ¬ k = 0 := by omega
  simp [Result.andThen, sliced, Addr.add, hne]
theorem cutB_three (W : World) (g n c t : Nat) (hk : t + 3 ≤ c) : (Instr.slice 85 (.slice (some ⟨g, 0, none⟩) n c) (some (.int .i64 (t : Int))) (some (.int .i64 ((t : Int) + 3))) (some (.int .i64 ((t : Int) + 3)))).run Tryz.prog W = .ok (.slice (some ⟨g, t, none⟩) 3 3) W := by
  have ht' : Tryz.prog.underlying 85 = some (.slice (Tryz.prog.elem 85)) := by rw [Program.elem, Tryz.underlying85]
  have he : Tryz.prog.elem 85 = 5 := by rw [Program.elem, Tryz.underlying85]
  rw [run_slice_lhm W 85 _ _ _ ht' .i64 .i64 .i64 _ _ _ (by omega) (by omega) (by omega) (by omega), he, Tryz.sizeOf5]
  have e3 : ((t : Int) + 3).toNat = t + 3 := by omega
  have hne : ¬ (t + 3 = t) := by omega
  rw [e3, Int.toNat_natCast]
  simp only [Result.andThen, sliced, hne, if_false, Option.map_some, Nat.mul_one]
  have e4 := addr0 g t
  rw [e4, Nat.add_sub_cancel_left]
/-- the bytes that a string is made of, as a new row -/
theorem bytes_cell (S : List UInt8) (cap : Nat) {j : Nat} {x : UInt8} (h : S[j]? = some x) : (bytesRow (bN S) cap)[j]? = some (.int .u8 (x.toNat : Int)) := by
  unfold bytesRow
  have hj : j < S.length := (List.getElem?_eq_some_iff.1 h).1
  rw [Array.getElem?_append_left (by simp [bN]; exact hj)]
  simp [bN, h]
theorem bytes_size (S : List UInt8) (cap : Nat) (hc : S.length ≤ cap) : (bytesRow (bN S) cap).size = cap := by
  unfold bytesRow
  have e : (bN S).size = S.length := rfl
  have e2 : (bN S).data.size = S.length := rfl
  rw [Array.size_append, Array.size_map, Array.size_replicate, e2, e]
  omega
theorem back_run (W : World) (base gt n c : Nat) (L : List UInt8) (h : Own 1 uenc W base 5 (.slice (some ⟨gt, 0, none⟩) n c) L) : (convert 85 9 (.slice (some ⟨gt, 0, none⟩) n c)).run Tryz.prog W = .ok (.string (bN L)) W := by
  obtain ⟨hn, _⟩ := uown_cells h
  have hc : ∀ j (hj : j < L.length), W.cell? ((⟨gt, 0, none⟩ : Addr).add j) = some (.int .u8 (L[j].toNat : Int)) := fun j hj => by
    have e := addr0 gt j
    rw [e]
    exact uown_cell h (List.getElem?_eq_getElem hj)
  have := run_convert_bytes_back (P := Tryz.prog) W 85 9 5 ⟨gt, 0, none⟩ c L Tryz.underlying85 Tryz.underlying5 Tryz.underlying9 hc
  rw [hn]
  exact this
theorem rowS_take_notin {p : Nat} {l : List Tri} {r : List Nat} (hr : r ∈ rowsS p l) (i : Nat) (hi : i < r.length) : r[i] ∉ r.take i := by
  obtain ⟨n, _, rfl⟩ := List.mem_map.1 hr
  have hn := rowS_nodup p l l.length n
  intro h
  obtain ⟨j, hj, e⟩ := List.getElem_of_mem h
  rw [List.length_take] at hj
  rw [List.getElem_take] at e
  have h2 := List.pairwise_iff_getElem.1 hn j i (by omega) hi (by omega)
  exact h2 e
theorem row_apart_take {p : Nat} {l : List Tri} {r : List Nat} (hr : r ∈ rowsS p l) (i : Nat) : Apart l (r.take i) := by
  obtain ⟨n, _, rfl⟩ := List.mem_map.1 hr
  intro a ha b hb
  exact rowS_apart p l l.length n a (List.mem_of_mem_take ha) b (List.mem_of_mem_take hb)
theorem look_in {p : Nat} {l : List Tri} {r : List Nat} (hr : r ∈ rowsS p l) {i : Nat} (hi : i ∈ r) : hasB (looksL (sheetD p l)) (lookB (xAt l i)) = true := by
  refine hasB_iff.2 ((looksF_mem (sheetD p l) [] _).2 (.inr ⟨xAt l i, ?_, rfl⟩))
  unfold sheetD pickL
  exact List.mem_flatMap.2 ⟨r, hr, List.mem_map.2 ⟨i, hi, rfl⟩⟩
theorem isB_kept {w w' : World} {T : List UInt8} {B b : Nat} (h : IsB B b (Lib.byteCells T) w) (hB : Below w.heap.size w w') : IsB B b (Lib.byteCells T) w' := h.below hB
end Go.Proofs.YtoccplfnjammjaaGreatDoor

namespace Go.Proofs.YtoccplfnjammjaaGreatDoor
open Go Go.RowKit Tor

def DrI (w5 wr : World) (T : List UInt8) : Prop := IsB w5.heap.size w5.heap.size (Lib.byteCells T) wr ∧ Below w5.heap.size w5 wr
theorem three_cells {w : World} {t : TypeId} {a b c : List UInt8} : ∀ j x, ([a, b, c] : List (List UInt8))[j]? = some x → (w.alloc (.cells #[.string (bN a), .string (bN b), .string (bN c)] t)).cell? ⟨w.heap.size, 0 + j, none⟩ = some (.string (bN x)) := by
  intro j x hj
  match j, hj with
  | 0, hj => simp at hj; subst hj; rw [Nat.zero_add]; exact World.cell?_alloc_new _ _ _ _
  | 1, hj => simp at hj; subst hj; rw [Nat.zero_add]; exact World.cell?_alloc_new _ _ _ _
  | 2, hj => simp at hj; subst hj; rw [Nat.zero_add]; exact World.cell?_alloc_new _ _ _ _
theorem one_cell {w : World} {t : TypeId} {a : List UInt8} : ∀ j x, ([a] : List (List UInt8))[j]? = some x → (w.alloc (.cells #[.string (bN a)] t)).cell? ⟨w.heap.size, 0 + j, none⟩ = some (.string (bN x)) := by
  intro j x hj
  match j, hj with
  | 0, hj => simp at hj; subst hj; rw [Nat.zero_add]; exact World.cell?_alloc_new _ _ _ _
set_option maxRecDepth 100000 in
set_option maxHeartbeats 8000000 in
theorem draw_any (p : Nat) (A : Option Addr) (l : List Tri) (c : Nat) (w : World) (H : Nat) (hr : RdT w H A l) (hH : H ≤ w.heap.size)
    (hw : ∀ (k : Nat) (hk : k < l.length), l[k].s.size ≤ 9223372036854775807) (ok : OkD p l) (hDt : DtAt w) :
    Calls Tryz.prog 14 #[.agg #[.int .i64 p, .slice A l.length c]] w (Ret (.tuple #[.string (bN (drawE p l).1), .int .i64 (drawE p l).2]) w) := by
  have hB0 : Below w.heap.size w (w.alloc (.cells #[.int .i64 p, .slice A l.length c] 25)) := (Below.refl _ _).alloc (Nat.le_refl _) _
  have kA0 : Blk (w.alloc (.cells #[.int .i64 p, .slice A l.length c] 25)) w.heap.size 25 #[.int .i64 p, .slice A l.length c] := Blk.new w _ _
  have HSH := Lib.hid (drows_any p A l c (w.alloc (.cells #[.int .i64 p, .slice A l.length c] 25)) H (hr.below' hB0 hH) (Nat.le_trans hH hB0.size) hw ok.chk ok.p2 ok.p24 ok.bd ok.len)
  have HLK : Hid (∀ (w1 : World) (AR : Option Addr) (cR : Nat), RdT w1 w1.heap.size A l → RdG w1 w1.heap.size AR (rowsS p l) → Calls Tryz.prog 45 #[.agg #[.int .i64 p, .slice A l.length c], .slice AR (rowsS p l).length cR] w1 (LooksRet w1 (sheetD p l))) := Lib.hid (fun w1 AR cR h1 h2 =>
    looks_any p A l c AR (rowsS p l) cR w1 w1.heap.size h1 h2 (Nat.le_refl _) (fun r hr' => row_in hr') ok.len (Nat.le_trans (rowsS_len p l) ok.len) (by have := sheetD_len ok.inP; have := ok.len; unfold sheetD at *; omega) (fun r hr' => by have := row_len ok.inP hr'; have := ok.len; omega) ok.words)
  have HDE : Hid (drawE p l = if 52 < (looksL (sheetD p l)).length then ([], 5) else (partD p l (1 + (looksL (sheetD p l)).length + (rowsS p l).length), 0)) := Lib.hid (by rw [partD_all]; rfl)
  have HPL := fun h k => Lib.hid (partD_len ok h k)
  have HP0 : Hid (partD p l 1 = headL p (rowsS p l).length ++ [10]) := Lib.hid (by rw [partD_next p l 0 _ (linesD_head p l)]; rfl)
  have HPK : Hid (∀ k (hk : k < (looksL (sheetD p l)).length), partD p l (k + 1 + 1) = partD p l (k + 1) ++ (letL k (looksL (sheetD p l))[k] ++ [10])) := Lib.hid (fun k hk => partD_next p l (k + 1) _ (linesD_let p l k hk))
  have HPR : Hid (∀ j (hj : j < (rowsS p l).length), partD p l (1 + (looksL (sheetD p l)).length + (j + 1)) = partD p l (1 + (looksL (sheetD p l)).length + j) ++ (drawR p l (looksL (sheetD p l)) (rowsS p l)[j] ++ [10])) := Lib.hid (fun j hj => by
    rw [show 1 + (looksL (sheetD p l)).length + (j + 1) = (looksL (sheetD p l)).length + j + 1 + 1 by omega, show 1 + (looksL (sheetD p l)).length + j = (looksL (sheetD p l)).length + j + 1 by omega]
    exact partD_next p l _ _ (linesD_row p l j hj))
  have HL16 : Hid (∀ x ∈ looksL (sheetD p l), x.length ≤ 16) := Lib.hid (fun x hx => looks16 ok hx)
  have hRL : (rowsS p l).length ≤ 400 := Nat.le_trans (rowsS_len p l) ok.len
  have h24 := ok.p24
  have h2 := ok.p2
  have HOK := Lib.hid ok
  have hDt0 := hDt.below hB0
  clear ok
  generalize partD p l = PD at *
  have hz0 := hB0.size
  go_enter Tryz.func14, Tryz.ntmps14
  go_wp2_with (first
    | (go_at_call 18; refine HSH.out.mono ?_; rintro e w1 ⟨v, vs, rfl, hG, hB1⟩
       obtain ⟨AR, cR, rfl, hcR, hrG⟩ := hG.rd2
       have kA := kA0.below' hB1
       have a0 := kA.cell 0 _ rfl
       have a1 := kA.cell 1 _ rfl
       have al := kA.lt
       have hBf := hB0.trans (hB1.mono hz0)
       have hzf := hBf.size
       have HLL := Lib.hid (HLK.out w1 AR cR ((hr.below' hBf hH).more (by omega)) hrG)
       have tk := True.intro)
    | fail)
  refine HLL.out.mono ?_
  rintro e w5 h
  rcases h with ⟨h52, rfl, hB2⟩ | ⟨h52, v2, mb, rfl, ho2, hM2, hmb, hB2⟩
  · go_wp2_with fail
    go_ret2
    have e9 := HDE.out
    rw [if_pos h52] at e9
    exact ⟨by rw [e9]; rfl, hBf.trans (hB2.mono hzf)⟩
  · obtain ⟨AL, cL, rfl, hcL, hrL⟩ := Own.rd tenc_len ho2
    have hBg := hBf.trans (hB2.mono hzf)
    have hzg := hBg.size
    have e9 := HDE.out
    rw [if_neg (by omega)] at e9
    have HDE2 := Lib.hid e9
    clear HDE e9
    have HPL2 := HPL h52
    clear HPL
    generalize hLdef : looksL (sheetD p l) = L at *
    have HLD := Lib.hid hLdef
    clear hLdef
    obtain ⟨RS, hRS⟩ : ∃ RS, Hid (rowsS p l = RS) := ⟨_, Lib.hid rfl⟩
    have kA5 := kA.below' hB2
    have a05 := kA5.cell 0 _ rfl
    have a15 := kA5.cell 1 _ rfl
    have al5 := kA5.lt
    have hIB := isB_new w5
    have hBB : Below w5.heap.size w5 (w5.alloc (.cells #[.pointer none, .slice none 0 0] 87)) := (Below.refl _ _).alloc (Nat.le_refl _) _
    obtain ⟨w6, hw6⟩ : ∃ w6, Hid (w6 = w5.alloc (.cells #[.pointer none, .slice none 0 0] 87)) := ⟨_, Lib.hid rfl⟩
    rw [← hw6.out] at hIB hBB
    have hz6 := hBB.size
    have hDt6 := hDt.below (hBg.trans (hBB.mono hzg))
    clear a0 a1 al
    have tk1 := True.intro
    go_wp2_with (first
      | (go_at_call 49; have := tk1; rw [← hw6.out]; refine (digF_any (p : Int) (by omega) (by omega) w6 hDt6).mono ?_; rintro e w7 ⟨rfl, hB7⟩
         clear tk1
         have hB7' := hBB.trans (hB7.mono hz6)
         have hz7 := hB7'.size
         have hI7 := hIB.below hB7
         have hDt7 := hDt6.below hB7
         have tk2 := True.intro)
      | (go_at_call 49; have := tk2; refine (digF_any ((rowsS p l).length : Int) (by omega) (by omega) w7 hDt7).mono ?_; rintro e w8 ⟨rfl, hB8⟩
         clear tk2
         have hB8' := hB7'.trans (hB8.mono hz7)
         have hz8 := hB8'.size
         have hI8 := hI7.below hB8
         have tk3 := True.intro)
      | fail)
    rw [show (⟨#[100, 105, 97, 103, 114, 97, 109]⟩ : ByteArray) = bN dgB from rfl]
    refine (line_any w5.heap.size w5.heap.size [] w8.heap.size 0 3 [dgB, Lib.itoa (p : Int), Lib.itoa ((rowsS p l).length : Int)] (w8.alloc (.cells #[.string (bN dgB), .string (bN (Lib.itoa (p : Int))), .string (bN (Lib.itoa ((rowsS p l).length : Int)))] 9)) (hI8.below ((Below.refl _ _).alloc (Nat.le_refl _) _)) (by simp; omega) three_cells (by simp) (Nat.le_refl _) (by simp) (by rw [blanks3]; have h1 := itoa_len p (by omega); have h2 := itoa_len (rowsS p l).length (by omega); simp [dgB]; omega) (by decide)).mono ?_
    rintro e w9 ⟨rfl, hI9, hB9, hk9⟩
    clear tk3
    go_wp2_with fail
    rw [blanks3] at hI9
    have hI9' : IsB w5.heap.size w5.heap.size (Lib.byteCells (PD 1)) w9 := by
      rw [HP0.out]
      have e : [] ++ ((dgB ++ 32 :: (Lib.itoa (p : Int) ++ 32 :: Lib.itoa ((rowsS p l).length : Int))) ++ [10]) = headL p (rowsS p l).length ++ [10] := by unfold headL dgB; simp
      rw [← e]; exact hI9
    have hB9' := (hB8'.alloc hz8 (.cells #[.string (bN dgB), .string (bN (Lib.itoa (p : Int))), .string (bN (Lib.itoa ((rowsS p l).length : Int)))] 9)).trans hB9
    have HI9 := Lib.hid hI9'
    have HB9 := Lib.hid hB9'
    have hz9 := hB9'.size
    clear hI9 hk9 hI8 hB8 hI7 hB7 hB9 hI9' hB9' hz7 hz8
    go_loopw [50] (fun kv wr => ∃ k : Nat, k ≤ L.length ∧ kv = .int .i64 k ∧ DrI w5 wr (PD (k + 1))) (fun kv _ => L.length - (intOf kv).toNat)
    case atStart => exact ⟨0, Nat.zero_le _, rfl, HI9.out, HB9.out⟩
    case round =>
      clear HI9 HB9 hz9
      obtain ⟨k, hk, rfl, hI, hB⟩ := hrel
      have hz := hB.size
      have HPLk := HPL2 (k + 1)
      by_cases hlt : k < L.length
      · obtain ⟨b, o, rfl, hb, h0⟩ := (hrL.below hB).txt hlt
        have hbl := lt_of_cell h0
        have HN := Lib.hid (HPK.out k hlt)
        have hx16 := HL16.out L[k] (List.getElem_mem hlt)
        obtain ⟨x, hx⟩ : ∃ x, Hid (L[k] = x) := ⟨_, Lib.hid rfl⟩
        rw [hx.out] at h0 HN hx16
        have HLC := letter_cut k (by omega)
        have i1 : (k : Int) < (L.length : Int) := by omega
        have i2 : (0 : Int) ≤ (k : Int) := by omega
        go_wp2_with (first
          | (go_at_call 46; rw [show (⟨#[108, 101, 116, 116, 101, 114]⟩ : ByteArray) = bN ltB' from rfl]; refine (line_any w5.heap.size w5.heap.size (PD (k + 1)) wr.heap.size 0 3 [ltB', [letN k], x] (wr.alloc (.cells #[.string (bN ltB'), .string (bN [letN k]), .string (bN x)] 9)) (hI.below ((Below.refl _ _).alloc (Nat.le_refl _) _)) (by simp; omega) three_cells (by simp) (Nat.le_refl _) (by simp) (by rw [blanks3]; simp [ltB']; omega) (by have := HPLk.out; omega)).mono ?_; rintro e w7 ⟨rfl, hI7, hB7, hk7⟩)
          | fail)
        go_roundw
        case rel =>
          refine ⟨k + 1, by omega, by go_num, ?_, (hB.alloc hz (.cells #[.string (bN ltB'), .string (bN [letN k]), .string (bN x)] 9)).trans hB7⟩
          rw [HN.out]
          rw [blanks3] at hI7
          have e : letL k x = ltB' ++ 32 :: ([letN k] ++ 32 :: x) := by unfold letL ltB'; simp
          rw [e]
          exact hI7
        case measure => simp [intOf]; omega
      · obtain rfl : k = L.length := by omega
        have hcv := fun W S => run_bytes_of_string (P := Tryz.prog) W 9 85 5 (bN S) Tryz.underlying9 Tryz.underlying85 Tryz.underlying5
        have kA6 := kA5.below' hB
        have a06 := kA6.cell 0 _ rfl
        have al6 := kA6.lt
        have e1 : IntKind.i64.wrap (2 * (p : Int)) = 2 * (p : Int) := IntWalk.i64_in _ (by omega)
        have e2 : IntKind.i64.wrap (2 * (p : Int) - 1) = 2 * (p : Int) - 1 := IntWalk.i64_in _ (by omega)
        go_wp2_with (first
          | (go_at_call 50; refine (Tryz.strings_Repeat ⟨#[124, 32]⟩ p wr (by omega) (by show 2 * p ≤ _; omega)).mono ?_; rintro e w7 ⟨rfl, hB7⟩; rw [show (⟨(Lib.repeatL (⟨#[124, 32]⟩ : ByteArray).data.toList p).toArray⟩ : ByteArray) = bN (Lib.repeatL [124, 32] p) from rfl])
          | fail)
        obtain ⟨CAP, hCAP⟩ : ∃ CAP, Hid (grownCap w7 (bN (Lib.repeatL [124, 32] p)).size 0 5 = CAP) := ⟨_, Lib.hid rfl⟩
        have hge := grownCap_ge w7 (bN (Lib.repeatL [124, 32] p)).size 0 5
        rw [hCAP.out] at hge
        have hS2 : (bN (Lib.repeatL [124, 32] p)).size = 2 * p := by rw [bN_size, Lib.repeatL_length]; simp; omega
        rw [hS2] at hge
        rw [hCAP.out, hS2]
        obtain ⟨CE, hCE⟩ : ∃ CE, Hid (bytesRow (bN (Lib.repeatL [124, 32] p)) CAP = CE) := ⟨_, Lib.hid rfl⟩
        rw [hCE.out]
        have hCS : CE.size = CAP := by rw [← hCE.out]; exact bytes_size _ _ (by rw [Lib.repeatL_length]; simp; omega)
        have HCC : Hid (∀ (j : Nat) (x : UInt8), (drawR p l L [])[j]? = some x → CE[j]? = some (Value.int .u8 (x.toNat : Int))) := Lib.hid (fun j x hj => by
          rw [← hCE.out]
          refine bytes_cell _ _ ?_
          rw [← repeat_draw l L p (by omega), List.getElem?_take] at hj
          split at hj
          · exact hj
          · cases hj)
        have hB7' := hB.trans (hB7.mono hz)
        have hz7 := hB7'.size
        have hne7 : w5.heap.size < w7.heap.size := (hI.below hB7).lt
        have hgl := heap_alloc_new w7 (.cells CE 5 (CE.size, CE.size + 1))
        have HBA := Lib.hid ((hB7'.alloc hz7 (.cells CE 5 (CE.size, CE.size + 1))).drew)
        have HIA := Lib.hid ((hI.below hB7).below (((Below.refl w7.heap.size w7).alloc (Nat.le_refl _) (.cells CE 5 (CE.size, CE.size + 1))).drew))
        have HGA : Hid ((w7.alloc (.cells CE 5 (CE.size, CE.size + 1))).drew.heap[w7.heap.size]? = some (.cells CE 5 (CE.size, CE.size + 1))) := Lib.hid hgl
        clear hgl
        generalize (w7.alloc (.cells CE 5 (CE.size, CE.size + 1))).drew = wX at HBA HIA HGA ⊢
        have HRS2 := Lib.hid (congrArg List.length hRS.out)
        rw [hRS.out]
        have hRSl : RS.length ≤ 400 := by rw [← hRS.out]; exact hRL
        clear hI hB hB7 hB7' hz hz7 hcv kA6 a06 al6 e1 e2
        go_loopw [74] (fun kv wr => ∃ j : Nat, j ≤ RS.length ∧ kv = .int .i64 j ∧ DrI w5 wr (PD (1 + L.length + j)) ∧ wr.heap[w7.heap.size]? = some (.cells CE 5 (CE.size, CE.size + 1))) (fun kv _ => RS.length - (intOf kv).toNat)
        case atStart => exact ⟨0, Nat.zero_le _, rfl, ⟨by rw [Nat.add_zero, Nat.add_comm]; exact HIA.out, HBA.out⟩, HGA.out⟩
        case round =>
          clear HBA HIA HGA HPLk
          obtain ⟨j, hj, rfl, ⟨hI, hB⟩, hga⟩ := hrel
          have hz := hB.size
          have kA6 := kA5.below' hB
          have a06 := kA6.cell 0 _ rfl
          have a16 := kA6.cell 1 _ rfl
          have al6 := kA6.lt
          have hBu := hBg.trans (hB.mono hzg)
          by_cases hjl : j < RS.length
          · have hjm : RS[j] ∈ rowsS p l := by rw [hRS.out]; exact List.getElem_mem hjl
            have HROW := Lib.hid (HPR.out j (by rw [hRS.out]; exact hjl))
            have hRj : (rowsS p l)[j]'(by rw [hRS.out]; exact hjl) = RS[j] := by congr 1
            rw [hRj] at HROW
            obtain ⟨gb, go, hAR, hgb, Ak, ck, g0, hrow⟩ := ((by rw [← hRS.out]; exact hrG : RdG w1 w1.heap.size AR RS)).row hjl
            subst hAR
            obtain ⟨r, hr0⟩ : ∃ r, Hid (RS[j] = r) := ⟨_, Lib.hid rfl⟩
            rw [hr0.out] at g0 hrow HROW hjm
            have hri := row_in hjm
            have hrl := Nat.le_trans (row_len HOK.out.inP hjm) HOK.out.len
            have h5w := hB2.size
            have g0w : wr.cell? ⟨gb, go + j, none⟩ = some (.slice Ak r.length ck) := (hB.cell (p := ⟨gb, _, none⟩) (by show gb < w5.heap.size; omega)).trans ((hB2.cell (p := ⟨gb, _, none⟩) hgb).trans g0)
            have hgbl := lt_of_cell g0w
            have i1 : (j : Int) < (RS.length : Int) := by omega
            have i2 : (0 : Int) ≤ (j : Int) := by omega
            have HCUT := fun W => cutB_all W w7.heap.size (2 * p) CAP (2 * p - 1) (by omega) (by omega)
            have ewide : (2 * (p : Int) - 1) = ((2 * p - 1 : Nat) : Int) := by omega
            rw [ewide]
            have hcell : ∀ (q : Nat) (x : UInt8), (drawR p l L [])[q]? = some x → wr.cell? ⟨w7.heap.size, 0 + q, none⟩ = some (.int .u8 (x.toNat : Int)) := fun q x hq => by rw [Nat.zero_add, Lib.cell_of_heap hga]; exact HCC.out q x hq
            have HCL := Lib.hid (cloneB_any w7.heap.size 0 (2 * p - 1) (drawR p l L []) wr hcell (fun e => by have := drawR_len p l L []; rw [e] at this; simp at this; omega) (by rw [drawR_len]; omega))
            rw [drawR_len] at HCL
            clear hcell
            go_wp2_with (first
              | (go_at_call 51; refine HCL.out.mono ?_; rintro e w9 ⟨gt, ct, rfl, ho9, hB9⟩)
              | fail)
            have hgt0 := (uown_cells ho9).2.1
            have hct : 2 * p - 1 ≤ ct := by obtain ⟨_, _, _, _, _, h, _⟩ := uown_cells ho9; exact h
            obtain ⟨wA, hwA⟩ : ∃ wA : World, wA = wr := ⟨_, rfl⟩
            obtain rfl := hwA
            go_loopw [85] (fun kv wr => ∃ i : Nat, i ≤ r.length ∧ kv = .int .i64 i ∧ Own 1 uenc wr wA.heap.size 5 (.slice (some ⟨gt, 0, none⟩) (2 * p - 1) ct) (drawR p l L (r.take i)) ∧ Below wA.heap.size wA wr) (fun kv _ => r.length - (intOf kv).toNat)
            case atStart => exact ⟨0, Nat.zero_le _, rfl, ho9, hB9⟩
            case round =>
              clear ho9 hB9 HCL g0w hgbl
              obtain ⟨i, hi, rfl, hoR, hBR⟩ := hrel
              have hzR := hBR.size
              have kA7 := kA6.below' hBR
              have a07 := kA7.cell 0 _ rfl
              have a17 := kA7.cell 1 _ rfl
              have al7 := kA7.lt
              have hBr2 := hB.trans (hBR.mono hz)
              by_cases hil : i < r.length
              · have hq1 := hri r[i] (List.getElem_mem hil)
                have hlk := look_in hjm (List.getElem_mem hil)
                have hni := rowS_take_notin hjm i hil
                have hap := row_apart_take hjm (i + 1)
                rw [take_snoc r i hil] at hap
                obtain ⟨t, ht2, htb⟩ := HOK.out.inP r[i] hq1
                have hDS := drawR_step (p := p) l L hap hni htb ht2
                rw [← take_snoc r i hil] at hDS
                have HDS := Lib.hid hDS
                clear hDS hap hni
                rw [HLD.out] at hlk
                have hx16 := HL16.out (lookB (xAt l r[i])) (hasB_iff.1 hlk)
                obtain ⟨rb, ro, rfl, hrb, m0⟩ := hrow.nat hil
                have m0w : wr.cell? ⟨rb, ro + i, none⟩ = some (.int .i64 (r[i] : Nat)) := (hBr2.cell (p := ⟨rb, _, none⟩) (by show rb < w5.heap.size; omega)).trans ((hB2.cell (p := ⟨rb, _, none⟩) hrb).trans m0)
                clear m0
                have HMG := Lib.hid (fun (W : World) (hW : Below wA.heap.size wA W) => MapL.get (((hM2.below hB).below hW)) (lookB (xAt l r[i])) (by unfold maxLen; omega) hlk)
                rw [xAt_of hq1] at HMG HDS htb
                obtain ⟨q, hq⟩ : ∃ q, Hid (r[i] = q) := ⟨_, Lib.hid rfl⟩
                have HPQ : ∃ hq2 : q < l.length, l[r[i]]'hq1 = l[q] := by have e := hq.out; subst e; exact ⟨hq1, rfl⟩
                obtain ⟨hq2, hlq⟩ := HPQ
                rw [hlq] at HMG HDS htb
                rw [hq.out] at m0w
                clear hlk hx16 hlq hq1
                have HLOOK := Lib.hid (fun W => look_any l[q] W)
                obtain ⟨b, o, hA, hb0, n0, n1, n2⟩ := (hr.below' (hBu.trans (hBR.mono hBu.size)) hH).tri hq2
                subst hA
                have hbW := lt_of_cell n0
                have hrW := lt_of_cell m0w
                rw [htb] at n1 HLOOK
                have HTB := Lib.hid htb
                have k0 : (0 : Int) ≤ (i : Int) := by omega
                have k1 : (i : Int) < (r.length : Int) := by omega
                have k2 : (0 : Int) ≤ (q : Int) := by omega
                have k3 : (q : Int) < (l.length : Int) := by omega
                have e1 : IntKind.i64.wrap (2 * (t : Int)) = 2 * (t : Int) := IntWalk.i64_in _ (by omega)
                have e2 : IntKind.i64.wrap (2 * (t : Int) + 3) = 2 * (t : Int) + 3 := IntWalk.i64_in _ (by omega)
                have HC3 := fun W => cutB_three W gt (2 * p - 1) ct (2 * t) (by omega)
                rw [show ((2 * t : Nat) : Int) = 2 * (t : Int) by omega] at HC3
                obtain ⟨LB, hLB⟩ : ∃ LB, Hid (lookB l[q] = LB) := ⟨_, Lib.hid rfl⟩
                rw [hLB.out] at HMG HDS HLOOK
                go_wp2_with fail
                refine wp_region_J (fun w' => w'.cell? ⟨w.heap.size, 1, none⟩ = some (.slice (some ⟨b, o, none⟩) l.length c) ∧ w'.cell? ⟨b, o + q * 3, none⟩ = some (.int .i64 l[q].a) ∧ w'.cell? ⟨b, o + q * 3 + 1, none⟩ = some (.int .i64 (t : Int)) ∧ w'.cell? ⟨b, o + q * 3 + 2, none⟩ = some (.string l[q].s)) (fun _ => True) (fun _ => false) (by kernel_rfl) ?_
                have hS1 : wr.drew.cell? ⟨w.heap.size, 1, none⟩ = some (.slice (some ⟨b, o, none⟩) l.length c) ∧ wr.drew.cell? ⟨b, o + q * 3, none⟩ = some (.int .i64 l[q].a) ∧ wr.drew.cell? ⟨b, o + q * 3 + 1, none⟩ = some (.int .i64 (t : Int)) ∧ wr.drew.cell? ⟨b, o + q * 3 + 2, none⟩ = some (.string l[q].s) := ⟨a17, n0, n1, n2⟩
                have hA0 : Below wr.heap.size wr wr.drew := (Below.refl _ _).drew
                have hkeepS : ∀ w2, Below wr.heap.size wr w2 → w2.cell? ⟨w.heap.size, 1, none⟩ = some (.slice (some ⟨b, o, none⟩) l.length c) ∧ w2.cell? ⟨b, o + q * 3, none⟩ = some (.int .i64 l[q].a) ∧ w2.cell? ⟨b, o + q * 3 + 1, none⟩ = some (.int .i64 (t : Int)) ∧ w2.cell? ⟨b, o + q * 3 + 2, none⟩ = some (.string l[q].s) := fun w2 hb => ⟨(kA7.below' hb).cell 1 _ rfl, (hb.cell (p := ⟨b, _, none⟩) hbW).trans n0, (hb.cell (p := ⟨b, _, none⟩) hbW).trans n1, (hb.cell (p := ⟨b, _, none⟩) hbW).trans n2⟩
                refine wpAnyJ_take1 0 rfl (by kernel_rfl) (by kernel_rfl) rfl (by kernel_rfl) (fun _ _ _ h => h) (by rfl) hS1 (fun w' hSw => (by obtain ⟨z1, z2, z3, z4⟩ := hSw; have ub := lt_of_cell z2; go_simp; try (with_reducible rfl))) ?_
                try simp only [Act.put, List.getElem_toArray, List.getElem_cons_succ, List.getElem_cons_zero, List.setIfInBounds_toArray, List.set_cons_zero, List.set_cons_succ]
                refine wpAnyJ_take1 1 rfl (by kernel_rfl) (by kernel_rfl) rfl (by kernel_rfl) (fun _ _ _ h => h) (by rfl) hS1 (fun w' hSw => (by obtain ⟨z1, z2, z3, z4⟩ := hSw; have ub := lt_of_cell z2; go_simp; try (with_reducible rfl))) ?_
                try simp only [Act.put, List.getElem_toArray, List.getElem_cons_succ, List.getElem_cons_zero, List.setIfInBounds_toArray, List.set_cons_zero, List.set_cons_succ]
                refine wpAnyJ_take1 2 rfl (by kernel_rfl) (by kernel_rfl) rfl (by kernel_rfl) (fun _ _ _ h => h) (by rfl) hS1 (fun w' hSw => (by obtain ⟨z1, z2, z3, z4⟩ := hSw; have ub := lt_of_cell z2; go_simp; try (with_reducible rfl))) ?_
                try simp only [Act.put, List.getElem_toArray, List.getElem_cons_succ, List.getElem_cons_zero, List.setIfInBounds_toArray, List.set_cons_zero, List.set_cons_succ]
                refine wpAnyJ_take1 3 rfl (by kernel_rfl) (by kernel_rfl) rfl (by kernel_rfl) (fun _ _ _ h => h) (by rfl) hS1 (fun w' hSw => (by obtain ⟨z1, z2, z3, z4⟩ := hSw; have ub := lt_of_cell z2; go_simp; try (with_reducible rfl))) ?_
                try simp only [Act.put, List.getElem_toArray, List.getElem_cons_succ, List.getElem_cons_zero, List.setIfInBounds_toArray, List.set_cons_zero, List.set_cons_succ]
                refine wpAnyJ_take1 4 rfl (by kernel_rfl) (by kernel_rfl) rfl (by kernel_rfl) (fun _ _ _ h => h) (by rfl) hS1 (fun w' hSw => (by obtain ⟨z1, z2, z3, z4⟩ := hSw; have ub := lt_of_cell z2; go_simp; try (with_reducible rfl))) ?_
                try simp only [Act.put, List.getElem_toArray, List.getElem_cons_succ, List.getElem_cons_zero, List.setIfInBounds_toArray, List.set_cons_zero, List.set_cons_succ]
                refine wpAnyJ_take1 5 rfl (by kernel_rfl) (by kernel_rfl) rfl (by kernel_rfl) (fun _ _ _ h => h) (by rfl) hS1 (fun w' hSw => (by obtain ⟨z1, z2, z3, z4⟩ := hSw; have ub := lt_of_cell z2; go_simp; try (with_reducible rfl))) ?_
                try simp only [Act.put, List.getElem_toArray, List.getElem_cons_succ, List.getElem_cons_zero, List.setIfInBounds_toArray, List.set_cons_zero, List.set_cons_succ]
                refine wpAnyJ_take1 6 rfl (by kernel_rfl) (by kernel_rfl) rfl (by kernel_rfl) (fun _ _ _ h => h) (by rfl) hS1 (fun w' hSw => (by obtain ⟨z1, z2, z3, z4⟩ := hSw; have ub := lt_of_cell z2; go_simp; try (with_reducible rfl))) ?_
                try simp only [Act.put, List.getElem_toArray, List.getElem_cons_succ, List.getElem_cons_zero, List.setIfInBounds_toArray, List.set_cons_zero, List.set_cons_succ]
                refine wpAnyJ_take1 7 rfl (by kernel_rfl) (by kernel_rfl) rfl (by kernel_rfl) (fun _ _ _ h => h) (by rfl) hS1 (fun w' hSw => (by obtain ⟨z1, z2, z3, z4⟩ := hSw; have ub := lt_of_cell z2; go_simp; try (with_reducible rfl))) ?_
                try simp only [Act.put, List.getElem_toArray, List.getElem_cons_succ, List.getElem_cons_zero, List.setIfInBounds_toArray, List.set_cons_zero, List.set_cons_succ]
                refine wpAnyJ_take1 8 rfl (by kernel_rfl) (by kernel_rfl) rfl (by kernel_rfl) (fun _ _ _ h => h) (by rfl) hS1 (fun w' hSw => (by obtain ⟨z1, z2, z3, z4⟩ := hSw; have ub := lt_of_cell z2; go_simp; try (with_reducible rfl))) ?_
                try simp only [Act.put, List.getElem_toArray, List.getElem_cons_succ, List.getElem_cons_zero, List.setIfInBounds_toArray, List.set_cons_zero, List.set_cons_succ]
                refine wpAnyJ_take1 9 rfl (by kernel_rfl) (by kernel_rfl) rfl (by kernel_rfl) (fun _ _ _ h => h) (by rfl) hS1 (fun w' hSw => (by obtain ⟨z1, z2, z3, z4⟩ := hSw; have ub := lt_of_cell z2; go_simp; try (with_reducible rfl))) ?_
                try simp only [Act.put, List.getElem_toArray, List.getElem_cons_succ, List.getElem_cons_zero, List.setIfInBounds_toArray, List.set_cons_zero, List.set_cons_succ]
                refine wpAnyJ_take1 10 rfl (by kernel_rfl) (by kernel_rfl) rfl (by kernel_rfl) (fun _ _ _ h => h) (by rfl) hS1 (fun w' hSw => (by obtain ⟨z1, z2, z3, z4⟩ := hSw; have ub := lt_of_cell z2; go_simp; try (with_reducible rfl))) ?_
                try simp only [Act.put, List.getElem_toArray, List.getElem_cons_succ, List.getElem_cons_zero, List.setIfInBounds_toArray, List.set_cons_zero, List.set_cons_succ]
                refine wpAnyJ_take1 11 rfl (by kernel_rfl) (by kernel_rfl) rfl (by kernel_rfl) (fun _ _ _ h => h) (by rfl) hS1 (fun w' hSw => (by obtain ⟨z1, z2, z3, z4⟩ := hSw; have ub := lt_of_cell z2; go_simp; try (with_reducible rfl))) ?_
                try simp only [Act.put, List.getElem_toArray, List.getElem_cons_succ, List.getElem_cons_zero, List.setIfInBounds_toArray, List.set_cons_zero, List.set_cons_succ]
                refine wpAnyJ_take1 12 rfl (by kernel_rfl) (by kernel_rfl) rfl (by kernel_rfl) (fun _ _ _ h => h) (by rfl) hS1 (fun w' hSw => (by obtain ⟨z1, z2, z3, z4⟩ := hSw; have ub := lt_of_cell z2; go_simp; try (with_reducible rfl))) ?_
                try simp only [Act.put, List.getElem_toArray, List.getElem_cons_succ, List.getElem_cons_zero, List.setIfInBounds_toArray, List.set_cons_zero, List.set_cons_succ]
                refine wpAnyJ_ready [13] (by kernel_rfl) (by simp) (NextJ.cons rfl (fun K hK => ?_) NextJ.nil)
                go_simp
                refine (HLOOK.out wr.drew).mono ?_
                rintro e w3 ⟨rfl, hB3⟩
                have hB3' := hA0.trans (hB3.mono hA0.size)
                have hz3 := hB3'.size
                go_simp
                refine hK.out _ _ (hkeepS _ hB3') (fun _ => trivial) ?_
                clear hK K
                try simp only [Act.put, List.getElem_toArray, List.getElem_cons_succ, List.getElem_cons_zero, List.setIfInBounds_toArray, List.set_cons_zero, List.set_cons_succ]
                have hget := HMG.out w3 (hBR.trans (hB3'.mono hzR))
                refine wpAnyJ_ready [14] (by kernel_rfl) (by simp) (NextJ.cons rfl (fun K hK => ?_) NextJ.nil)
                go_simp
                refine hK.out _ _ (hkeepS _ hB3') (fun _ => trivial) ?_
                clear hK K
                try simp only [Act.put, List.getElem_toArray, List.getElem_cons_succ, List.getElem_cons_zero, List.setIfInBounds_toArray, List.set_cons_zero, List.set_cons_succ]
                refine wpAnyJ_ready [15] (by kernel_rfl) (by simp) (NextJ.cons rfl (fun K hK => ?_) NextJ.nil)
                go_simp
                have hB4 := hB3'.alloc hz3 (.cells #[.int .u8 40, .int .u8 ((letN (idxB L LB)).toNat : Int), .int .u8 41] 5)
                refine hK.out _ _ (hkeepS _ hB4) (fun _ => trivial) ?_
                clear hK K
                try simp only [Act.put, List.getElem_toArray, List.getElem_cons_succ, List.getElem_cons_zero, List.setIfInBounds_toArray, List.set_cons_zero, List.set_cons_succ]
                refine wpAnyJ_ready [16] (by kernel_rfl) (by simp) (NextJ.cons rfl (fun K hK => ?_) NextJ.nil)
                have hgt1 := (uown_cells hoR).2.2.1
                refine step_copy3 (by rfl) (.tmp 102) (.tmp 111) (by rfl) wA.heap.size gt (2 * p - 1) ct (2 * t) w3.heap.size (drawR p l L (r.take i)) (letN (idxB L LB)) (by rfl) (by rfl) (hoR.below hB4) (by omega) (by omega) (World.cell?_alloc_new _ _ _ 0) (World.cell?_alloc_new _ _ _ 1) (World.cell?_alloc_new _ _ _ 2) ?_
                intro W8 ho8 hg8
                have hB8 : Below wA.heap.size wA W8 := (hBR.trans (hB4.mono hzR)).grown hg8 (by simp; omega) (fun k hk => by simp only [Option.some.injEq] at hk; omega)
                have hBw8 := hBu.trans (hB8.mono hBu.size)
                have kA8 := kA6.below' hB8
                obtain ⟨b2, o2, e2', _, y0, y1, y2⟩ := (hr.below' hBw8 hH).tri hq2
                simp only [Option.some.injEq, Addr.mk.injEq, and_true] at e2'
                obtain ⟨rfl, rfl⟩ := e2'
                rw [HTB.out] at y1
                refine hK.out _ _ ⟨kA8.cell 1 _ rfl, y0, y1, y2⟩ (fun _ => trivial) ?_
                clear hK K
                try simp only [Act.put, List.getElem_toArray, List.getElem_cons_succ, List.getElem_cons_zero, List.setIfInBounds_toArray, List.set_cons_zero, List.set_cons_succ]
                refine wpAnyJ_done (by kernel_rfl) ?_ _
                clear y0 y1 y2 hS1 hget
                go_wp2_with fail
                go_roundw
                case rel => exact ⟨i + 1, by omega, by go_num, by rw [HDS.out]; exact ho8, hB8⟩
                case measure => simp [intOf]; omega
              · have e1 : r.take i = r := List.take_of_length_le (by omega)
                rw [e1] at hoR
                have hback := back_run wr wA.heap.size gt (2 * p - 1) ct (drawR p l L r) hoR
                have HPLk := HPL2 (1 + L.length + j)
                have hI7 := hI.below hBR
                have hga7 := (hBR.block w7.heap.size (by have := (Array.getElem?_eq_some_iff.1 hga).1; exact this)).trans hga
                go_wp2_with (first
                  | (go_at_call 46; refine (line_any w5.heap.size w5.heap.size (PD (1 + L.length + j)) wr.heap.size 0 1 [drawR p l L r] (wr.alloc (.cells #[.string (bN (drawR p l L r))] 9)) (hI7.below ((Below.refl _ _).alloc (Nat.le_refl _) _)) (by simp; have := hBr2.size; omega) one_cell (by simp) (Nat.le_refl _) (by simp) (by rw [blanks1, drawR_len]; omega) (by have := HPLk.out; omega)).mono ?_; rintro e wZ ⟨rfl, hIZ, hBZ, hkZ⟩)
                  | fail)
                go_roundw
                case rel =>
                  rw [blanks1, ← HROW.out] at hIZ
                  refine ⟨j + 1, by omega, by go_num, ⟨hIZ, (hBr2.alloc (hBr2.size) (.cells #[.string (bN (drawR p l L r))] 9)).trans hBZ⟩, ?_⟩
                  refine hkZ w7.heap.size _ _ _ ((heap_alloc_old _ _ (Array.getElem?_eq_some_iff.1 hga7).1).trans hga7) (.inr (by simp)) ?_
                  omega
                case measure => simp [intOf]; omega
          · have hjR : j = RS.length := by omega
            subst hjR
            go_wp2_with (first
              | (go_at_call 53; refine (Tryz.Builder_String_any w5.heap.size w5.heap.size (PD (1 + L.length + RS.length)) wr hI hz).mono ?_; rintro e wZ ⟨rfl, hBZ⟩)
              | fail)
            go_ret2
            refine ⟨?_, hBg.trans ((hB.trans hBZ).mono hzg)⟩
            rw [HDE2.out, hRS.out]; rfl
end Go.Proofs.YtoccplfnjammjaaGreatDoor
