/- torchonref14.Rows. -/
import Derived.Test.YtoccplfnjammjaaGreatDoorRLev
import Derived.Test.YtoccplfnjammjaaGreatDoorDRows
import Derived.Test.YtoccplfnjammjaaGreatDoorSortG
set_option linter.unusedSimpArgs false
set_option linter.unusedVariables false
namespace Go.Proofs.YtoccplfnjammjaaGreatDoor
open Go Go.RowKit Tor

section
variable (p : Nat) (l : List Tri) (L : List Nat)
def hitB (n t i : Nat) : Bool := L.getD i 0 == n && decide ((xAt l i).b = (t : Int))
/-- row n, as far as place t -/
def preR (n t : Nat) : List Nat := (List.range t).flatMap fun (t' : Nat) => (List.range L.length).filter (hitB l L n t')
theorem preR_all (n : Nat) : preR l L n p = rowS p l L n := rfl
theorem preR_succ (n t : Nat) : preR l L n (t + 1) = preR l L n t ++ (List.range L.length).filter (hitB l L n t) := by
  unfold preR
  rw [List.range_succ, List.flatMap_append]
  simp
theorem filt_succ (n t i : Nat) : (List.range (i + 1)).filter (hitB l L n t) = (List.range i).filter (hitB l L n t) ++ (if hitB l L n t i = true then [i] else []) := by
  rw [List.range_succ, List.filter_append]
  congr 1
  simp only [List.filter_cons, List.filter_nil]
/-- the rows before n are whole, row n is x, the others are empty -/
def mixQ (n : Nat) (x : List Nat) : List (List Nat) := (List.range (rowsN L)).map fun n' => if n' < n then rowS p l L n' else if n' = n then x else []
theorem mixQ_len (n : Nat) (x : List Nat) : (mixQ p l L n x).length = rowsN L := by simp [mixQ]
theorem mixQ_zero : mixQ p l L 0 [] = List.replicate (rowsN L) [] := by
  unfold mixQ
  apply List.ext_getElem (by simp)
  intro i h1 h2
  simp
theorem mixQ_all : mixQ p l L (rowsN L) [] = (List.range (rowsN L)).map (rowS p l L) := by
  unfold mixQ
  apply List.map_congr_left
  intro n hn
  rw [if_pos (List.mem_range.1 hn)]
theorem mixQ_next (n : Nat) : mixQ p l L n (rowS p l L n) = mixQ p l L (n + 1) [] := by
  unfold mixQ
  apply List.map_congr_left
  intro k _
  by_cases h1 : k < n
  · rw [if_pos h1, if_pos (by omega)]
  · rw [if_neg h1]
    by_cases h2 : k = n
    · subst h2; rw [if_pos rfl, if_pos (by omega)]
    · rw [if_neg h2, if_neg (by omega)]; split <;> rfl
theorem mixQ_set (n : Nat) (x y : List Nat) (hn : n < rowsN L) : (mixQ p l L n x).set n y = mixQ p l L n y := by
  unfold mixQ
  apply List.ext_getElem?
  intro k
  rw [List.getElem?_set]
  by_cases e : n = k
  · subst e
    rw [if_pos rfl, if_pos (by simpa using hn), List.getElem?_map, List.getElem?_range hn]
    simp
  · rw [if_neg e, List.getElem?_map, List.getElem?_map]
    cases h : (List.range (rowsN L))[k]? with
    | none => rfl
    | some m =>
      have : m = k := by
        obtain ⟨h1, h2⟩ := List.getElem?_eq_some_iff.1 h
        simpa using h2.symm
      subst this
      simp only [Option.map_some, Option.some.injEq]
      by_cases h1 : m < n
      · rw [if_pos h1, if_pos h1]
      · rw [if_neg h1, if_neg h1, if_neg (fun e' => e e'.symm), if_neg (fun e' => e e'.symm)]
theorem mixQ_get (n : Nat) (x : List Nat) (hn : n < rowsN L) : (mixQ p l L n x).getD n [] = x := by
  unfold mixQ
  rw [List.getD_eq_getElem?_getD, List.getElem?_map, List.getElem?_range hn]
  simp
end
theorem rowsN_take (L : List Nat) (k : Nat) (hk : k < L.length) : rowsN (L.take (k + 1)) = max (rowsN (L.take k)) (L[k] + 1) := by
  rw [take_snoc L k hk, rowsN_snoc]
theorem rowsN_take_le (L : List Nat) (k : Nat) : rowsN (L.take k) ≤ rowsN L := by
  conv => rhs; rw [← List.take_append_drop k L]
  unfold rowsN
  rw [List.map_append, supL_append]
  omega
theorem made_rows (n : Nat) : (madeCells (Value.slice none 0 0).cells (n * 1)).toList = (List.replicate n (Value.slice none 0 0)).flatMap venc := by
  rw [flat_venc]
  unfold madeCells
  rw [Nat.mul_one]
  apply List.ext_getElem?
  intro i
  rw [Array.getElem?_toList, Array.getElem?_map, List.getElem?_replicate]
  by_cases h : i < n
  · rw [Array.getElem?_range, if_pos h, if_pos h]
    simp [Value.cells, Nat.mod_one]
  · rw [if_neg h, Array.getElem?_eq_none (by simp; omega)]
    rfl
/-- empty rows, new -/
theorem GridW.made {w : World} {base n g : Nat} (h : w.ownsRow base 45 1 (.slice (some ⟨g, 0, none⟩) n n) n (madeCells (Value.slice none 0 0).cells (n * 1)).toList) : GridW w base (.slice (some ⟨g, 0, none⟩) n n) (List.replicate n (.slice none 0 0)) (List.replicate n []) := by
  refine ⟨?_, by simp, fun k hk => ?_, fun j k hj hk _ => ?_⟩
  · unfold Own
    rw [List.length_replicate, ← made_rows]
    exact h
  · rw [List.getElem_replicate, List.getD_eq_getElem?_getD, List.getElem?_replicate]
    have : ((if k < n then some ([] : List Nat) else none).getD []) = [] := by split <;> rfl
    rw [this]
    exact Own.nil _ _ _
  · left
    rw [List.getElem_replicate]; rfl
theorem preR_len (l : List Tri) (L : List Nat) (n : Nat) : ∀ t, (preR l L n t).length ≤ t * L.length
  | 0 => by simp [preR]
  | t + 1 => by
    have h1 := preR_len l L n t
    have h2 : ((List.range L.length).filter (hitB l L n t)).length ≤ L.length := Nat.le_trans (List.length_filter_le _ _) (by simp)
    rw [preR_succ, List.length_append, Nat.add_mul]; omega
theorem preR_len2 (l : List Tri) (L : List Nat) (n t i : Nat) (ht : t ≤ 24) (hL : L.length ≤ 400) (hi : i ≤ 400) : (preR l L n t ++ (List.range i).filter (hitB l L n t)).length ≤ 10000 := by
  have h1 := preR_len l L n t
  have h2 : ((List.range i).filter (hitB l L n t)).length ≤ i := Nat.le_trans (List.length_filter_le _ _) (by simp)
  have h3 : t * L.length ≤ 24 * 400 := Nat.mul_le_mul ht hL
  rw [List.length_append]; omega
/-- rows while they are made -/
def RefW (w1 wr : World) (base NR go co : Nat) (R : List (List Nat)) : Prop := ∃ vs, GridW wr base (.slice (some ⟨go, 0, none⟩) NR co) vs R ∧ Below base w1 wr
set_option maxRecDepth 100000 in
set_option maxHeartbeats 8000000 in
theorem rrows_any (p : Nat) (A : Option Addr) (l : List Tri) (c : Nat) (w : World) (H : Nat) (hr : RdT w H A l) (hH : H ≤ w.heap.size)
    (hw : ∀ (k : Nat) (hk : k < l.length), l[k].s.size ≤ 9223372036854775807) (hchk : sheetE p l = 0) (h24 : p ≤ 24)
    (hb : ∀ (k : Nat) (hk : k < l.length), 0 ≤ l[k].b ∧ l[k].b ≤ 100) (hl : l.length ≤ 400) :
    Calls Tryz.prog 26 #[.agg #[.int .i64 p, .slice A l.length c]] w fun e w' => ∃ v vs, e = .returned (.tuple #[v, .int .i64 0]) ∧ GridW w' w.heap.size v vs (rowsS p l) ∧ Below w.heap.size w w' := by
  obtain ⟨i0, hi0, hz0', hz1', hz2'⟩ := info_parts infoInt
  obtain ⟨i1, hi1, hy0', hy1', hy2'⟩ := info_parts infoInts
  have HH := Lib.hid hb
  have kS0 := Blk.new w 25 #[.int .i64 p, .slice A l.length c]
  have hB0 : Below w.heap.size w (w.alloc (.cells #[.int .i64 p, .slice A l.length c] 25)) := (Below.refl _ _).alloc (Nat.le_refl _) _
  have HLEV := Lib.hid (rlevels_any p A l c (w.alloc (.cells #[.int .i64 p, .slice A l.length c] 25)) H (hr.below' hB0 hH) (Nat.le_trans hH hB0.size) hw hchk hb hl)
  have hLl := levL_len l l.length
  have HSM : Hid (∀ k, k < l.length → (levL l l.length).getD k 0 ≤ k) := Lib.hid (fun k hk => lev_small l l.length k hk)
  have hNl := rowsN_le l l.length
  have HRS : Hid (rowsS p l = (List.range (rowsN (levL l l.length))).map (rowS p l (levL l l.length))) := Lib.hid rfl
  clear hb hchk
  generalize levL l l.length = L at *
  go_enter Tryz.func26, Tryz.ntmps26
  go_wp2_with (first
    | (go_at_call 62; refine HLEV.out.mono ?_; rintro e w1 ⟨vL, rfl, hoL, hB1⟩
       obtain ⟨AL, cL, rfl, hcL, hrL⟩ := Own.rd nenc_len hoL
       have kS := kS0.below' hB1
       have hBw := hB0.trans (hB1.mono hB0.size)
       have c0 := kS.cell 0 (.int .i64 p) rfl
       have c1 := kS.cell 1 (.slice A l.length c) rfl
       have n0 := kS.lt
       rw [hLl] at hcL
       clear hoL)
    | fail)
  have HLl := Lib.hid hLl
  clear hLl
  go_loopw [6, 7] (fun mv kv wr => wr = w1 ∧ ∃ k : Nat, k ≤ l.length ∧ kv = .int .i64 k ∧ mv = .int .i64 ((rowsN (L.take k) : Int) - 1)) (fun _ kv _ => l.length - (intOf kv).toNat)
  case atStart => exact ⟨rfl, 0, Nat.zero_le _, rfl, rfl⟩
  case round =>
    obtain ⟨rfl, k, hk, rfl, rfl⟩ := hrel
    have hN4 := rowsN_take_le L k
    have HTK := fun hk' => Lib.hid (rowsN_take L k hk')
    obtain ⟨X, hX⟩ : ∃ X, Hid (rowsN (L.take k) = X) := ⟨_, Lib.hid rfl⟩
    rw [hX.out] at hN4
    rw [hX.out]
    by_cases hlt : k < l.length
    · have hkL : k < L.length := by rw [HLl.out]; exact hlt
      obtain ⟨gv, go, rfl, hgv, y0⟩ := hrL.nat hkL
      have hyE : L[k] = L.getD k 0 := by rw [List.getD_eq_getElem?_getD, List.getElem?_eq_getElem hkL]; rfl
      have HT := HTK hkL
      have hsm := HSM.out k hlt
      obtain ⟨Y, hY⟩ : ∃ Y, Hid (L[k] = Y) := ⟨_, Lib.hid rfl⟩
      rw [← hyE, hY.out] at hsm
      rw [hY.out] at y0
      clear hyE HTK
      have k0 : (0 : Int) ≤ (k : Int) := by omega
      have k1 : (k : Int) < (l.length : Int) := by omega
      go_wp2_with fail
      go_roundw
      case rel =>
        refine ⟨by first | rfl | trivial, k + 1, by omega, by go_num, ?_⟩
        rw [HT.out, hX.out, hY.out]
        congr 1
        omega
      case measure => simp [intOf]; omega
    · obtain rfl : k = l.length := by omega
      have eN : L.take l.length = L := List.take_of_length_le (by rw [HLl.out]; exact Nat.le_refl _)
      rw [eN] at hX
      clear HTK eN
      have e1 : IntKind.i64.wrap ((X : Int) - 1 + 1) = (X : Int) := by rw [IntWalk.i64_in _ (by omega)]; omega
      go_wp2_with (first
        | (at_make; refine wpList_make_full _ rfl _ _ _ rfl wr.heap.size _ i1 _ 1 Tryz.underlying40 hi1 hy0' hy1' .i64 .i64 _ _ X rfl rfl rfl rfl (by rw [hy2']; omega) (by unfold maxLen; omega) (Nat.le_refl _) ?_; intro w2 hown0 hg0
           have hG0 : RefW wr w2 wr.heap.size X wr.heap.size X (mixQ p l L 0 []) := ⟨_, by have := GridW.made hown0; rw [mixQ_zero, hX.out]; exact this, ⟨hg0.os, hg0.tape, hg0.output, hg0.size, fun k hk => hg0.block k hk (by simp)⟩⟩
           clear hown0 hg0)
        | fail)
      obtain ⟨w1, hw1⟩ : ∃ w1 : World, w1 = wr := ⟨_, rfl⟩
      obtain rfl := hw1
      have hX400 : X ≤ 400 := by omega
      clear c0 c1 n0
      go_loopw [9] (fun nv wr => ∃ n : Nat, n ≤ X ∧ nv = .int .i64 n ∧ RefW w1 wr w1.heap.size X w1.heap.size X (mixQ p l L n [])) (fun nv _ => X - (intOf nv).toNat)
      case atStart => exact ⟨0, Nat.zero_le _, rfl, hG0⟩
      case round =>
        clear hG0
        obtain ⟨n, hn, rfl, hGA⟩ := hrel
        by_cases hnl : n < X
        · have i1 : (n : Int) ≤ (X : Int) - 1 := by omega
          go_wp2_with fail
          obtain ⟨wA, hwA⟩ : ∃ wA : World, wA = wr := ⟨_, rfl⟩
          obtain rfl := hwA
          go_loopw [10] (fun tv wr => ∃ t : Nat, t ≤ p ∧ tv = .int .i64 t ∧ RefW w1 wr w1.heap.size X w1.heap.size X (mixQ p l L n (preR l L n t))) (fun tv _ => p - (intOf tv).toNat)
          case atStart => exact ⟨0, Nat.zero_le _, rfl, hGA⟩
          case round =>
            clear hGA
            obtain ⟨t, ht, rfl, hGB⟩ := hrel
            have HGB := hGB
            obtain ⟨_, _, hBB⟩ := HGB
            have kSB := kS.below' hBB
            have c0B := kSB.cell 0 (.int .i64 p) rfl
            have n0B := kSB.lt
            by_cases htl : t < p
            · have i2 : (t : Int) < (p : Int) := by omega
              go_wp2_with fail
              obtain ⟨wB, hwB⟩ : ∃ wB : World, wB = wr := ⟨_, rfl⟩
              obtain rfl := hwB
              clear hBB kSB c0B n0B
              go_loopw [11] (fun iv wr => ∃ i : Nat, i ≤ l.length ∧ iv = .int .i64 i ∧ RefW w1 wr w1.heap.size X w1.heap.size X (mixQ p l L n (preR l L n t ++ (List.range i).filter (hitB l L n t)))) (fun iv _ => l.length - (intOf iv).toNat)
              case atStart => exact ⟨0, Nat.zero_le _, rfl, by rw [List.range_zero, List.filter_nil, List.append_nil]; exact hGB⟩
              case round =>
                clear hGB
                obtain ⟨i, hi, rfl, vs, hGC, hBC⟩ := hrel
                have hzC := hBC.size
                have kSC := kS.below' hBC
                have c1C := kSC.cell 1 (.slice A l.length c) rfl
                have n0C := kSC.lt
                by_cases hil : i < l.length
                · have hfs := filt_succ l L n t i
                  have hpl := preR_len2 l L n t i (by omega) (by rw [HLl.out]; exact hl) (by omega)
                  have HFS := Lib.hid hfs
                  clear hfs
                  have hiL : i < L.length := by rw [HLl.out]; exact hil
                  obtain ⟨gv, go, rfl, hgv, y0⟩ := (hrL.below hBC).nat hiL
                  have hyE : L[i] = L.getD i 0 := by rw [List.getD_eq_getElem?_getD, List.getElem?_eq_getElem hiL]; rfl
                  have hhit : hitB l L n t i = (L.getD i 0 == n && decide (l[i].b = (t : Int))) := by unfold hitB; rw [xAt_of hil]
                  rw [hyE] at y0
                  have hsm := HSM.out i hil
                  generalize L.getD i 0 = Y at y0 hhit hsm
                  have HHIT := Lib.hid hhit
                  clear hyE hhit
                  obtain ⟨b, o, hA, hb0, h0, h1, h2⟩ := (hr.below' (hBw.trans (hBC.mono hBw.size)) hH).tri (k := i) hil
                  subst hA
                  have hbb := lt_of_cell h0
                  have hyl := lt_of_cell y0
                  have k0 : (0 : Int) ≤ (i : Int) := by omega
                  have k1 : (i : Int) < (l.length : Int) := by omega
                  by_cases e1 : Y = n
                  · have e1' : ((Y : Int) == (n : Int)) = true := by simp [e1]
                    have HE1 := Lib.hid e1
                    clear e1
                    by_cases e2 : l[i].b = (t : Int)
                    · have e2' : (l[i].b == (t : Int)) = true := by simp [e2]
                      have HE2 := Lib.hid e2
                      clear e2
                      have hGl := hGC.len
                      rw [mixQ_len, hX.out] at hGl
                      have hnv : n < vs.length := by omega
                      obtain ⟨hgo, hgol, hcell, hfz⟩ := own_addr hGC.out
                      have hOn := hGC.inn n hnv
                      rw [mixQ_get p l L n _ (by rw [hX.out]; exact hnl)] at hOn
                      obtain ⟨x, hxd⟩ : ∃ x, Hid (preR l L n t ++ (List.range i).filter (hitB l L n t) = x) := ⟨_, Lib.hid rfl⟩
                      rw [hxd.out] at hGC hOn hpl
                      have HMS := Lib.hid (fun y => mixQ_set p l L n x y (by rw [hX.out]; exact hnl))
                      obtain ⟨An, cn, hvn, _, _⟩ := Own.rd nenc_len hOn
                      obtain ⟨rl, hrl2⟩ : ∃ rl, Hid (x.length = rl) := ⟨_, Lib.hid rfl⟩
                      rw [hrl2.out] at hvn hpl
                      rw [hvn] at hOn
                      have p5 := hcell n hnv
                      rw [hvn] at p5
                      have f5 := hfz n
                      have HVN := Lib.hid hvn
                      have HVL := Lib.hid hGl
                      have HCE := Lib.hid hcell
                      clear hvn hfz hcell hGl
                      have k5 : (n : Int) < (X : Int) := by omega
                      have k6 : (0 : Int) ≤ (n : Int) := by omega
                      go_wp2_with (first
                        | (at_builtin; refine wpList_append_nb rfl (.tmp 73) (.tmp 75) _ rfl w1.heap.size _ i0 _ Tryz.underlying45 hi0 hz0' hz1' hz2' rfl (.slice An rl cn) x rfl (hOn.alloc _) wr.heap.size i rfl (cell_new rfl) (by rw [hrl2.out]; omega) (by simp; omega) ?_; intro v6 w6 ho6 hg6 hb6
                           obtain ⟨A6, c6, hv6, _, _⟩ := Own.rd nenc_len ho6
                           rw [show (x ++ [i]).length = rl + 1 from by rw [List.length_append, hrl2.out]; rfl] at hv6
                           subst hv6
                           have hG4a := hGC.alloc (.cells #[.int .i64 i] 3)
                           have hg6' : (wr.alloc (.cells #[.int .i64 i] 3)).grownBy w6 (vs[n]'hnv).ownBlock := by rw [HVN.out]; exact hg6
                           have ho6' : Own 1 venc w6 w1.heap.size 45 (.slice (some ⟨w1.heap.size, 0, none⟩) X X) vs := World.ownsRow.kept hG4a.out hg6' (hG4a.ne' hnv)
                           obtain ⟨_, hgol6, hcell6, hfz6⟩ := own_addr ho6'
                           have p6 := hcell6 n hnv
                           rw [HVN.out] at p6
                           have f6 := hfz6 n)
                        | fail)
                      go_roundw
                      case rel =>
                        have hGf := hG4a.put (n := n) (u := .slice A6 (rl + 1) c6) (r := x ++ [i]) hnv (by rw [HVL.out]) ho6 hg6' (by rw [HVN.out]; exact hb6)
                        have hBf := Below.setCell ((hOn.alloc (.cells #[.int .i64 i] 3)).grown (hBC.alloc hzC (.cells #[.int .i64 i] 3)) hg6 (by rw [World.size_alloc]; omega)) (p := ⟨w1.heap.size, n, none⟩) (Nat.le_refl _) (.slice A6 (rl + 1) c6)
                        rw [HMS.out] at hGf
                        refine ⟨i + 1, by omega, by go_num, vs.set n (.slice A6 (rl + 1) c6), ?_, hBf⟩
                        rw [HFS.out, HHIT.out, HE1.out, if_pos (by simp [HE2.out]), ← List.append_assoc, hxd.out]
                        exact hGf
                      case measure => simp [intOf]; omega
                    · have e2' : (l[i].b == (t : Int)) = false := by simp [e2]
                      have HE2 := Lib.hid e2
                      clear e2
                      go_wp2_with fail
                      go_roundw
                      case rel => exact ⟨i + 1, by omega, by go_num, vs, by rw [HFS.out, HHIT.out, if_neg (by simp [HE2.out]), List.append_nil]; exact hGC, hBC⟩
                      case measure => simp [intOf]; omega
                  · have e1' : ((Y : Int) == (n : Int)) = false := by simp; omega
                    have HE1 := Lib.hid e1
                    clear e1
                    go_wp2_with fail
                    go_roundw
                    case rel => exact ⟨i + 1, by omega, by go_num, vs, by rw [HFS.out, HHIT.out, if_neg (by simp [HE1.out]), List.append_nil]; exact hGC, hBC⟩
                    case measure => simp [intOf]; omega
                · obtain rfl : i = l.length := by omega
                  have HPS := Lib.hid (preR_succ l L n t)
                  have HLl2 := HLl
                  go_wp2_with fail
                  go_roundw
                  case rel => exact ⟨t + 1, by omega, by go_num, vs, by rw [HPS.out, HLl.out]; exact hGC, hBC⟩
                  case measure => simp [intOf]; omega
            · obtain rfl : t = p := by omega
              go_wp2_with fail
              go_roundw
              case rel => exact ⟨n + 1, by omega, by go_num, by rw [preR_all, mixQ_next] at hGB; exact hGB⟩
              case measure => simp [intOf]; omega
        · obtain rfl : n = X := by omega
          have i1 : ¬ (n : Int) ≤ (n : Int) - 1 := by omega
          obtain ⟨vs, hGf, hBf⟩ := hGA
          have e := mixQ_all p l L
          rw [hX.out] at e
          rw [e] at hGf
          clear e
          go_wp2_with fail
          go_ret2
          exact ⟨_, rfl, ⟨vs, by rw [HRS.out, hX.out]; exact hGf.base hBw.size⟩, hBw.trans (hBf.mono hBw.size)⟩
end Go.Proofs.YtoccplfnjammjaaGreatDoor
