/- words: Join. -/
import Derived.Lib.Join
import Derived.Test.YtohcmfobnkaaiaaDoorRSpl
import Derived.Test.YtohcmfobnkaaiaaDoorLawLines
set_option linter.unusedSimpArgs false
set_option linter.unusedVariables false
namespace Go.Proofs.YtohcmfobnkaaiaaDoor
open Go Go.RowKit Tor

/-- a field as it is written -/
def writeF (x : Fld) : List UInt8 := if x.q then quoteL x.s else x.s
def sizeF (l : List Fld) : Nat := (l.map fun x => (writeF x).length + 1).sum
/-- Join -/
def joinP (l : List Fld) : List UInt8 × Int :=
  if 64 < l.length then ([], 3) else if l.all rightF = false then ([], 2) else if 4097 < sizeF l then ([], 3) else (Lib.join (l.map writeF) [32], 0)
theorem right_len {x : Fld} (h : rightF x = true) : x.s.length ≤ 200 := by
  unfold rightF textB at h
  split at h
  · simp only [Bool.and_eq_true, decide_eq_true_eq] at h; exact h.1
  · simp only [Bool.and_eq_true, decide_eq_true_eq] at h; exact h.2.1
theorem write_len {x : Fld} (h : rightF x = true) : (writeF x).length ≤ 402 := by
  have := right_len h
  have h2 := quoteL_length x.s
  unfold writeF
  split <;> omega
theorem right_quote {x : Fld} (h : rightF x = true) (hq : x.q = true) : quoteP x.s = (writeF x, 0) := by
  unfold rightF at h
  rw [if_pos hq] at h
  unfold quoteP writeF
  rw [if_pos h, if_pos hq]
theorem join_two (x y : List UInt8) (t : List (List UInt8)) : Lib.join (x :: y :: t) [32] = x ++ 32 :: Lib.join (y :: t) [32] := by
  rw [Lib.join_cons, Lib.join_cons]
  simp [Lib.joinTail]
theorem joinL_len (ts : List (List UInt8)) : (Lib.join ts [32]).length ≤ (ts.map fun x => x.length + 1).sum := by
  induction ts with
  | nil => simp [Lib.join]
  | cons x r ih =>
    cases r with
    | nil => simp [Lib.join]
    | cons y t =>
      rw [join_two]
      simp only [List.length_append, List.map_cons, List.sum_cons, List.length_cons] at ih ⊢
      omega
theorem joinF_len (l : List Fld) : (Lib.join (l.map writeF) [32]).length ≤ sizeF l := by
  have := joinL_len (l.map writeF)
  rw [List.map_map] at this
  exact this
theorem sizeF_snoc (l : List Fld) (x : Fld) : sizeF (l ++ [x]) = sizeF l + ((writeF x).length + 1) := by unfold sizeF; simp

set_option maxRecDepth 100000 in
set_option maxHeartbeats 4000000 in
theorem wjoin_any (A : Option Addr) (l : List Fld) (c : Nat) (w : World) (h : WdAt w) (h1 : Rd 2 fenc w w.heap.size A l) (hl : l.length ≤ 1000000) (hsl : ∀ x ∈ l, x.s.length ≤ 1000000) :
    Calls Tryd.prog 34 #[.slice A l.length c] w (Ret (.tuple #[.string (bN (joinP l).1), .int .i64 (joinP l).2]) w) := by
  by_cases h64 : 64 < l.length
  · have hP : Hid (joinP l = ([], 3)) := by rw [Hid]; unfold joinP; rw [if_pos h64]
    rw [hP.out]
    have i1 : (64 : Int) < l.length := by omega
    clear h64 hP h h1 hsl
    go_enter Tryd.func34, Tryd.ntmps34
    go_wp2_with fail
    go_ret2
    exact ⟨rfl, Below.refl _ _⟩
  have i1 : ¬ (64 : Int) < l.length := by omega
  have hP : Hid (joinP l = if l.all rightF = false then ([], 2) else if 4097 < sizeF l then ([], 3) else (Lib.join (l.map writeF) [32], 0)) := by rw [Hid]; unfold joinP; rw [if_neg h64]
  obtain ⟨res, hres⟩ : ∃ r, Hid (joinP l = r) := ⟨_, Lib.hid rfl⟩
  rw [hres.out]
  have hR : Hid (res = if l.all rightF = false then ([], 2) else if 4097 < sizeF l then ([], 3) else (Lib.join (l.map writeF) [32], 0)) := by rw [Hid, ← hres.out, hP.out]
  clear hP hres
  have HSL := Lib.hid hsl
  have HW := Lib.hid (fun w' (hw : Below w.heap.size w w') => h.below hw)
  clear hsl h
  obtain ⟨i0, hi0, hz0', hz1', hz2'⟩ := info_parts infoTxt
  go_enter Tryd.func34, Tryd.ntmps34
  go_wp2_with fail
  go_loopw [4, 5, 14] (fun ov sv iv wr => ∃ (j z : Nat), j ≤ l.length ∧ iv = .int .i64 j ∧ sv = .int .i64 z ∧ Hid (z = sizeF (l.take j)) ∧ z ≤ 403 * j ∧ Hid ((l.take j).all rightF = true) ∧ Tor.Own 1 tenc wr w.heap.size 9 ov ((l.take j).map writeF) ∧ Below w.heap.size w wr) (fun _ _ i _ => l.length - (intOf i).toNat)
  case atStart => exact ⟨0, 0, Nat.zero_le _, rfl, rfl, Lib.hid rfl, Nat.le_refl _, Lib.hid rfl, Own.nil _ _ _, Below.refl _ _⟩
  case round =>
    obtain ⟨j, z, hj, rfl, rfl, hz, hz4, hall, ho, hB⟩ := hrel
    obtain ⟨W, rfl⟩ : ∃ wo : World, wo = wr := ⟨_, rfl⟩
    obtain ⟨Av, cv, rfl, _, _⟩ := Own.rd tenc_len ho
    have htk : ((l.take j).map writeF).length = j := by rw [List.length_map, List.length_take]; omega
    rw [htk] at ho ⊢
    by_cases hlt : j < l.length
    · obtain ⟨b, o, rfl, hb, hc0, hc1⟩ := Rd.fld h1 hlt
      have a2 : (j : Int) < (l.length : Int) := by omega
      have hsn := take_snoc l j hlt
      have hxl := HSL.out _ (List.getElem_mem hlt)
      obtain ⟨x, hx⟩ : ∃ x, Hid (l[j] = x) := ⟨_, Lib.hid rfl⟩
      have hmem : x ∈ l := by rw [← hx.out]; exact List.getElem_mem hlt
      rw [hx.out] at hc0 hc1 hsn hxl
      have q0 := (hB.cell (p := ⟨b, o + j * 2, none⟩) hb).trans hc0
      have q1 := (hB.cell (p := ⟨b, o + j * 2 + 1, none⟩) hb).trans hc1
      clear hc0 hc1
      have HRt := Lib.hid (fun w' => right_any x w' hxl)
      have hs1 := hB.size
      cases hr : rightF x
      · have hrr : Hid (res = ([], 2)) := by
          rw [Hid, hR.out, if_pos]
          rw [List.all_eq_false]
          exact ⟨x, hmem, by rw [hr]; simp⟩
        rw [hr] at HRt
        clear hR hz hall hsn hr
        go_wp2_with fail
        refine (HRt.out _).mono ?_
        rintro e9 w3 ⟨rfl, hB3⟩
        have hBa := hB.alloc hs1 (.cells #[.bool x.q, .string (bN x.s)] 56)
        go_wp2_with fail
        go_ret2
        rw [hrr.out]
        exact ⟨rfl, hBa.trans (hB3.mono hBa.size)⟩
      · rw [hr] at HRt
        have hwl := write_len hr
        obtain ⟨y, hy⟩ : ∃ y, Hid (writeF x = y) := ⟨_, Lib.hid rfl⟩
        rw [hy.out] at hwl
        have hyz : (bN y).size = y.length := rfl
        have hgo : Hid (z + (y.length + 1) = sizeF (l.take (j + 1)) ∧ (l.take (j + 1)).all rightF = true ∧ (l.take (j + 1)).map writeF = (l.take j).map writeF ++ [y]) := by
          refine Lib.hid ⟨?_, ?_, ?_⟩
          · rw [hsn, sizeF_snoc, ← hz.out, hy.out]
          · rw [hsn, List.all_append, hall.out]; simp [hr]
          · rw [hsn, List.map_append]; simp [hy.out]
        have htl : ((l.take j).map writeF).length ≤ 64 := by rw [htk]; omega
        have HQ : x.q = true → Hid (∀ w', WdAt w' → Calls Tryd.prog 16 #[.string (bN x.s)] w' (Ret (.tuple #[.string (bN y), .int .i64 0]) w')) := fun hq => Lib.hid (fun w' hw' => by
          have := quote_any x.s w' (by omega) hw'
          rw [right_quote hr hq, hy.out] at this
          exact this)
        have hns : x.q = false → x.s = y := fun hq => by rw [← hy.out]; unfold writeF; rw [hq]; rfl
        have kS := Blk.new W 56 #[.bool x.q, .string (bN x.s)]
        have hBa := hB.alloc hs1 (.cells #[.bool x.q, .string (bN x.s)] 56)
        have hWa : Below W.heap.size W (W.alloc (.cells #[.bool x.q, .string (bN x.s)] 56)) := (Below.refl _ _).alloc (Nat.le_refl _) _
        clear hz hall hsn hr hmem hx hy
        have HTL := Lib.hid htk
        clear htk
        obtain ⟨q, s⟩ := x
        simp only at *
        cases q
        · have hsy := hns rfl
          subst hsy
          clear HQ hns
          go_wp2_with fail
          refine (HRt.out _).mono ?_
          rintro e9 w3 ⟨rfl, hB3⟩
          have k3 := kS.below' hB3
          have c0 := k3.cell 0 _ rfl
          have c1 := k3.cell 1 _ rfl
          have hBb := hBa.trans (hB3.mono hBa.size)
          have hWb := hWa.trans (hB3.mono hWa.size)
          have hs3 := hBb.size
          go_wp2_with (first
            | (at_builtin
               refine wpList_append_txt rfl (.tmp 30) (.tmp 32) _ rfl w.heap.size _ i0 _ Tryd.underlying46 hi0 hz0' hz1' hz2' rfl (.slice Av j cv) ((l.take j).map writeF) rfl ((ho.below hWb).alloc _) w3.heap.size s rfl (World.cell?_alloc_new _ _ _ 0) (by omega) (by simp; omega) ?_
               intro v8 w8 hown8 hg8)
            | fail)
          have hB8 := ((ho.below hWb).alloc (.cells #[.string (bN s)] 9)).grown (hBb.alloc hs3 _) hg8 (by simp; omega)
          go_roundw
          case rel => exact ⟨j + 1, z + (s.length + 1), by omega, by go_num, by go_num, Lib.hid hgo.out.1, by omega, Lib.hid hgo.out.2.1, by rw [hgo.out.2.2]; exact hown8, hB8⟩
          case measure => simp [intOf]; omega
        · have HQ' := HQ rfl
          clear HQ hns
          go_wp2_with fail
          refine (HRt.out _).mono ?_
          rintro e9 w3 ⟨rfl, hB3⟩
          have k3 := kS.below' hB3
          have c0 := k3.cell 0 _ rfl
          have c1 := k3.cell 1 _ rfl
          have hBb := hBa.trans (hB3.mono hBa.size)
          have hWb := hWa.trans (hB3.mono hWa.size)
          go_wp2_with fail
          refine (HQ'.out _ (HW.out _ hBb)).mono ?_
          rintro e9 w4 ⟨rfl, hB4⟩
          have hBc := hBb.trans (hB4.mono hBb.size)
          have hWc := hWb.trans (hB4.mono hWb.size)
          have hs3 := hBc.size
          go_wp2_with (first
            | (at_builtin
               refine wpList_append_txt rfl (.tmp 30) (.tmp 32) _ rfl w.heap.size _ i0 _ Tryd.underlying46 hi0 hz0' hz1' hz2' rfl (.slice Av j cv) ((l.take j).map writeF) rfl ((ho.below hWc).alloc _) w4.heap.size y rfl (World.cell?_alloc_new _ _ _ 0) (by omega) (by simp; omega) ?_
               intro v8 w8 hown8 hg8)
            | fail)
          have hB8 := ((ho.below hWc).alloc (.cells #[.string (bN y)] 9)).grown (hBc.alloc hs3 _) hg8 (by simp; omega)
          go_roundw
          case rel => exact ⟨j + 1, z + (y.length + 1), by omega, by go_num, by go_num, Lib.hid hgo.out.1, by omega, Lib.hid hgo.out.2.1, by rw [hgo.out.2.2]; exact hown8, hB8⟩
          case measure => simp [intOf]; omega
    · obtain rfl : j = l.length := by omega
      rw [List.take_length] at hz hall ho
      have hR2 : Hid (res = if 4097 < z then ([], 3) else (Lib.join (l.map writeF) [32], 0)) := by rw [Hid, hR.out, hall.out, if_neg (by simp), hz.out]
      have hzz := hz.out
      obtain ⟨ts, hts⟩ : ∃ ts, Hid (l.map writeF = ts) := ⟨_, Lib.hid rfl⟩
      have hjl := joinF_len l
      rw [hts.out] at ho hR2 hjl
      have htl : ts.length = l.length := by rw [← hts.out, List.length_map]
      by_cases h97 : 4097 < z
      · have a2 : (4097 : Int) < z := by omega
        have hrr : Hid (res = ([], 3)) := by rw [Hid, hR2.out, if_pos h97]
        clear hR hR2 hz hall h97 hzz
        go_wp2_with fail
        go_ret2
        rw [hrr.out]
        exact ⟨rfl, hB⟩
      · have a2 : ¬ (4097 : Int) < z := by omega
        have hrr : Hid (res = (Lib.join ts [32], 0)) := by rw [Hid, hR2.out, if_neg h97]
        have hjl2 : (Lib.join ts [32]).length ≤ 140737488355328 := by omega
        have HJ : Hid (Calls Tryd.prog 60 #[.slice Av l.length cv, .string ⟨#[32]⟩] W (Ret (.string (bN (Lib.join ts [32]))) W)) := by
          refine Lib.hid ?_
          obtain ⟨Av2, cv2, ev, hcap, hrd⟩ := Own.rd tenc_len ho
          simp only [Value.slice.injEq] at ev
          obtain ⟨rfl, _, rfl⟩ := ev
          by_cases h0 : ts = []
          · have hl0 : l.length = 0 := by rw [← htl, h0]; rfl
            rw [hl0, h0]
            refine (Tryd.strings_Join_none _ _ _ _).mono ?_
            rintro e w' ⟨rfl, rfl⟩
            exact ⟨rfl, Below.refl _ _⟩
          · have hp : 0 < ts.length := List.length_pos_iff.2 h0
            obtain ⟨b, o, rfl, hb, _⟩ := Rd.txt hrd hp
            have hmm : (ts.map bN).map (·.data.toList) = ts := by rw [List.map_map]; exact List.map_id _
            have := Tryd.strings_Join b o cv (ts.map bN) ⟨#[32]⟩ W (fun j x hx => by
              rw [List.getElem?_map] at hx
              cases hj : ts[j]? with
              | none => rw [hj] at hx; cases hx
              | some y =>
                rw [hj] at hx
                cases hx
                obtain ⟨hjl, rfl⟩ := List.getElem?_eq_some_iff.1 hj
                obtain ⟨b', o', e', _, hc⟩ := Rd.txt hrd hjl
                cases e'
                exact hc) hb (by rw [List.length_map]; omega) (by rw [List.length_map]; omega) (by rw [hmm]; exact hjl2)
            rw [hmm, List.length_map, htl] at this
            exact this
        clear hR hR2 hz hall h97 hzz hjl hjl2 htl
        go_wp2_with fail
        refine HJ.out.mono ?_
        rintro e9 w4 ⟨rfl, hB4⟩
        go_wp2_with fail
        go_ret2
        rw [hrr.out]
        exact ⟨rfl, hB.trans (hB4.mono hB.size)⟩
end Go.Proofs.YtohcmfobnkaaiaaDoor
