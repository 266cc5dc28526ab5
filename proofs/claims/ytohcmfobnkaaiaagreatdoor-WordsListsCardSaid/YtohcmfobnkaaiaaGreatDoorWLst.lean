/- words: List. -/
import Derived.Test.YtohcmfobnkaaiaaGreatDoorWLs2
set_option linter.unusedSimpArgs false
set_option linter.unusedVariables false
namespace Go.Proofs.YtohcmfobnkaaiaaGreatDoor
open Go Go.RowKit Go.Shelf Tor
attribute [local go_sem] Oper.semAt_some

set_option maxRecDepth 100000 in
set_option maxHeartbeats 8000000 in
theorem wlist_any (A : Option Addr) (l : List Int) (c : Nat) (w : World) (hr : RdI w w.heap.size A l) (hln : l.length ≤ 1000000) (hcap : l.length ≤ c) (h : WdAt w) :
    Calls Tryz.prog 5 #[.slice A l.length c] w (Ret (.tuple #[.string (bN (listP l).1), .int .i64 (listP l).2]) w) := by
  by_cases h5 : 500 < l.length
  · have hP : Hid (listP l = ([], 3)) := by rw [Hid]; unfold listP; rw [if_pos h5]
    rw [hP.out]
    have a1 : (500 : Int) < l.length := by omega
    clear h5 hP hr h
    refine (callsIn_wide (n := 9)).1 ?_
    refine callsIn_of_wp Tryz.func5 rfl trivial ?_ rfl
    simp only [Tryz.ntmps5, List.size_toArray, List.length_cons, List.length_nil, Nat.reduceAdd, Nat.reduceSub, Array.replicate_succ, Array.replicate_zero, List.push_toArray, List.append_toArray, List.nil_append, List.cons_append]
    gi_wp2
    go_ret2
    exact ⟨rfl, Below.refl _ _⟩
  have a1 : ¬ (500 : Int) < l.length := by omega
  refine (callsIn_wide (n := 9)).1 ?_
  refine callsIn_of_wp_marks Tryz.func5 rfl trivial ?_ rfl
  simp only [Tryz.ntmps5, List.size_toArray, List.length_cons, List.length_nil, Nat.reduceAdd, Nat.reduceSub, Array.replicate_succ, Array.replicate_zero, List.push_toArray, List.append_toArray, List.nil_append, List.cons_append]
  gi_wp2
  gi_loopw [18] (fun i wr => ∃ j : Nat, j ≤ l.length ∧ i = .int .i64 j ∧ Hid (∀ x ∈ l.take j, 0 ≤ x ∧ x ≤ 9999) ∧ wr = w) (fun i wr => l.length - (intOf i).toNat)
  case atStart => exact ⟨0, by omega, rfl, Lib.hid (fun x hx => by simp at hx), rfl⟩
  case round =>
    obtain ⟨j, hj, rfl, hin, rfl⟩ := hrel
    obtain ⟨w, rfl⟩ : ∃ wo : World, wo = wr := ⟨_, rfl⟩
    by_cases hlt : j < l.length
    · obtain ⟨b, o, rfl, hb, hc⟩ := Rd.int hr hlt
      have a2 : (j : Int) < l.length := by omega
      obtain ⟨v, hv⟩ : ∃ v, Hid (l[j] = v) := ⟨_, Lib.hid rfl⟩
      rw [hv.out] at hc
      have hmem : Hid (v ∈ l) := by rw [Hid, ← hv.out]; exact List.getElem_mem hlt
      have hbad : ¬ (0 ≤ v ∧ v ≤ 9999) → Hid (listP l = ([], 7)) := fun hno => by
        rw [Hid]; unfold listP
        rw [if_neg h5, if_pos]
        rw [List.any_eq_true]
        refine ⟨v, hmem.out, ?_⟩
        simp only [Bool.or_eq_true, decide_eq_true_eq]
        omega
      by_cases h0 : v < 0
      · have hP := hbad (by omega)
        clear hbad
        gi_wp2
        rw [hP.out]
        exact ⟨_, results_tmp2 rfl _ _ _, rfl, Below.refl _ _⟩
      by_cases h9 : 9999 < v
      · have hP := hbad (by omega)
        clear hbad
        gi_wp2
        rw [hP.out]
        exact ⟨_, results_tmp2 rfl _ _ _, rfl, Below.refl _ _⟩
      clear hbad
      gi_wp2
      go_roundw
      case rel =>
        refine ⟨j + 1, by omega, by go_num, Lib.hid (fun x hx => ?_), trivial⟩
        rw [List.take_add_one, List.getElem?_eq_getElem hlt] at hx
        simp only [Option.toList_some, List.mem_append, List.mem_singleton] at hx
        rcases hx with hx | hx
        · exact hin.out x hx
        · rw [hx, hv.out]; omega
      case measure => simp [intOf]; omega
    · obtain rfl : j = l.length := by omega
      have hok : OkL l := fun x hx => hin.out x (by rw [List.take_length]; exact hx)
      have hP : Hid (listP l = (joinC (pcs l), 0)) := by
        rw [Hid]; unfold listP
        rw [if_neg h5, if_neg]
        · rfl
        rw [Bool.not_eq_true, List.any_eq_false]
        intro x hx
        have := hok x hx
        simp only [Bool.or_eq_true, decide_eq_true_eq]
        omega
      clear hin
      obtain ⟨i0, hi0, hz0', hz1', hz2'⟩ := info_parts infoInt1
      have hmk : (Instr.makeSlice 22 (.int .i64 ((l.length : Int) + 1)) (.int .i64 ((l.length : Int) + 1))).run Tryz.prog w = .ok (.slice (some ⟨w.heap.size, 0, none⟩) (l.length + 1) (l.length + 1)) (w.alloc (.cells (rowV (List.replicate (l.length + 1) 0)) 3)) := by
        have := run_makeSlice w 22 3 i0 _ Tryz.underlying22 hi0 hz0' .i64 .i64 ((l.length : Int) + 1) ((l.length : Int) + 1) (by omega) (by omega) (by rw [hz1']; omega) (by rw [hz2']; omega) (by omega)
        rw [this, hz1', show ((l.length : Int) + 1).toNat = l.length + 1 by omega, madeRow]
      gi_wp2
      obtain ⟨w1, hw1⟩ : ∃ w1, ((w.alloc (.cells (rowV (List.replicate (l.length + 1) 0)) 3)).alloc (.cells #[.slice (some ⟨w.heap.size, 0, none⟩) (l.length + 1) (l.length + 1)] 22)).alloc (.cells #[.int .i64 ((l.length : Int) - 1)] 3) = w1 := ⟨_, rfl⟩
      have hL1 : LsAt w w1 l.length (List.replicate l.length 0 ++ costs (l.drop l.length)) (w.heap.size + 1 + 1) ((l.length : Int) - 1) := by
        rw [← hw1]
        refine ⟨by (repeat' first | exact Below.refl _ _ | apply Below.drew | (refine Below.setCells ?_ _ _ ?_) | (refine Below.setCell ?_ ?_ _) | (refine Below.alloc ?_ ?_ _) | (simp; done) | (simp; omega)), ?_, ?_, ?_, by omega⟩
        · rw [List.drop_length, show List.replicate l.length (0 : Int) ++ costs [] = List.replicate (l.length + 1) 0 by rw [List.replicate_succ']; rfl]
          exact ((Blk.new w _ _).alloc _).alloc _
        · have := (Blk.new (w.alloc (.cells (rowV (List.replicate (l.length + 1) 0)) 3)) 22 #[.slice (some ⟨w.heap.size, 0, none⟩) (l.length + 1) (l.length + 1)]).alloc (.cells #[.int .i64 ((l.length : Int) - 1)] 3)
          rw [World.size_alloc] at this; exact this
        · have := Blk.new ((w.alloc (.cells (rowV (List.replicate (l.length + 1) 0)) 3)).alloc (.cells #[.slice (some ⟨w.heap.size, 0, none⟩) (l.length + 1) (l.length + 1)] 22)) 3 #[.int .i64 ((l.length : Int) - 1)]
          rw [World.size_alloc, World.size_alloc] at this; exact this
      rw [hw1]
      clear hw1 hmk hi0 hz0' hz1' hz2'
      refine wpIn_loop (fun a W => ∃ (s8 v36 v37 v38 v39 v40 v41 v42 v43 v44 v45 v46 v47 v48 v49 v50 v51 v52 v53 v54 v55 v56 v57 v58 v59 v60 v61 v62 v63 v64 v65 v66 v67 v68 v69 v70 v71 v72 v73 v74 v75 v76 v77 v78 v79 v80 : Value) (k bi : Nat) (Ds : List Nat), k ≤ l.length ∧ LsAt w W l.length (List.replicate k 0 ++ costs (l.drop k)) bi ((k : Int) - 1) ∧ MarksAt w.heap.size Ds W ∧
        a = { tmps := #[.slice A l.length c, undef, u2, u3, undef, u5, .pointer (some ⟨w.heap.size + 1, 0, none⟩), .pointer (some ⟨bi, 0, none⟩), s8, undef, undef, undef, undef, .slice A l.length c, .int .i64 l.length, .bool false, .slice A l.length c, .int .i64 l.length, .int .i64 l.length, .bool false, u20, u21, u22, u23, u24, u25, u26, u27, u28, .slice A l.length c, .int .i64 l.length, .int .i64 ((l.length : Int) + 1), .slice (some ⟨w.heap.size, 0, none⟩) (l.length + 1) (l.length + 1), .slice A l.length c, .int .i64 l.length, .int .i64 ((l.length : Int) - 1), v36, v37, v38, v39, v40, v41, v42, v43, v44, v45, v46, v47, v48, v49, v50, v51, v52, v53, v54, v55, v56, v57, v58, v59, v60, v61, v62, v63, v64, v65, v66, v67, v68, v69, v70, v71, v72, v73, v74, v75, v76, v77, v78, v79, v80, undef, undef, undef, undef, undef, undef, undef, undef, undef, undef, undef, undef, undef, undef, undef, undef, undef, undef, undef, undef, undef, undef, undef, undef, undef, undef, undef, undef, undef, undef, undef, undef, undef, undef, undef, undef, undef, undef, undef, undef, undef, undef, undef, undef, undef, undef, undef, undef, undef, undef, undef, undef, undef, undef], defers := Ds.map mkD }) (fun a W => (ib (a.tmps.getD 7 undef) W + 1).toNat) ?_ ?_
      · exact ⟨undef, undef, undef, undef, undef, undef, undef, undef, undef, undef, undef, undef, undef, undef, undef, undef, undef, undef, undef, undef, undef, undef, undef, undef, undef, undef, undef, undef, undef, undef, undef, undef, undef, undef, undef, undef, undef, undef, undef, undef, undef, undef, undef, undef, undef, undef, l.length, w.heap.size + 1 + 1, [], Nat.le_refl _, hL1, MarksAt.nil _ _, rfl⟩
      rintro a W ⟨s8, v36, v37, v38, v39, v40, v41, v42, v43, v44, v45, v46, v47, v48, v49, v50, v51, v52, v53, v54, v55, v56, v57, v58, v59, v60, v61, v62, v63, v64, v65, v66, v67, v68, v69, v70, v71, v72, v73, v74, v75, v76, v77, v78, v79, v80, k, bi, Ds, hk, hL, hM, rfl⟩
      dsimp only
      rcases Nat.eq_zero_or_pos k with rfl | hkp
      · have hL0 : LsAt w W l.length (costs l) bi (-1) := by simpa using hL
        have qi := hL0.ix.cell 0 _ rfl
        clear hL hL1
        gi_wp2
        clear qi
        obtain ⟨w3, hw3⟩ : ∃ w3, (W.alloc (.cells #[.pointer none, .slice none 0 0] 49)).alloc (.cells #[.int .i64 0] 3) = w3 := ⟨_, rfl⟩
        have hbw : w.heap.size + 1 < W.heap.size := by have := hL0.lt; have := hL0.ix.lt; omega
        have h3 : L3At w w3 l W.heap.size (W.heap.size + 1) 0 [] := by
          have hk1 : Below W.heap.size W w3 := by rw [← hw3]; exact ((Below.refl _ _).alloc (Nat.le_refl _) _).alloc (by simp) _
          refine ⟨⟨hL0.bl.trans (hk1.mono hL0.bl.size), hL0.row.below' hk1, hL0.bx.below' hk1, ?_, by omega⟩, ?_, hbw, by omega⟩
          · rw [← hw3]
            have := Blk.new (W.alloc (.cells #[.pointer none, .slice none 0 0] 49)) 3 #[.int .i64 0]
            rw [World.size_alloc] at this
            exact this
          · rw [← hw3]
            have := Lib.fresh_isBuilder 49 5 W
            exact IsB.below this ((Below.refl _ _).alloc (Nat.le_refl _) _)
        have hM3 : MarksAt w.heap.size Ds w3 := by rw [← hw3]; exact hM.keep ((KeepsOthers.alloc _ _).trans (KeepsOthers.alloc _ _))
        rw [hw3]
        clear hw3 hL0 hM
        refine wpIn_loop (fun a V => ∃ (s11 s12 x81 x82 x83 x84 x85 x86 x87 x88 x89 x90 x91 x92 x93 x94 x95 x96 x97 x98 x99 x100 x101 x102 x103 x104 x105 x106 x107 x108 x109 x110 x111 x112 x113 x114 x115 x116 x117 x118 x119 x120 x121 x122 x123 x124 x125 x126 x127 x128 x129 x130 x131 x132 x133 : Value) (k bj : Nat) (T : List UInt8) (Ds : List Nat), k ≤ l.length ∧ L3At w V l W.heap.size bj k T ∧ Hid (joinC (pcs l) = T ++ restT l k) ∧ MarksAt w.heap.size Ds V ∧
          a = { tmps := #[.slice A l.length c, undef, u2, u3, undef, u5, .pointer (some ⟨w.heap.size + 1, 0, none⟩), .pointer (some ⟨bi, 0, none⟩), s8, .pointer (some ⟨W.heap.size, 0, none⟩), .pointer (some ⟨bj, 0, none⟩), s11, s12, .slice A l.length c, .int .i64 l.length, .bool false, .slice A l.length c, .int .i64 l.length, .int .i64 l.length, .bool false, u20, u21, u22, u23, u24, u25, u26, u27, u28, .slice A l.length c, .int .i64 l.length, .int .i64 ((l.length : Int) + 1), .slice (some ⟨w.heap.size, 0, none⟩) (l.length + 1) (l.length + 1), .slice A l.length c, .int .i64 l.length, .int .i64 ((l.length : Int) - 1), .int .i64 (-1), .bool false, v38, v39, v40, v41, v42, v43, v44, v45, v46, v47, v48, v49, v50, v51, v52, v53, v54, v55, v56, v57, v58, v59, v60, v61, v62, v63, v64, v65, v66, v67, v68, v69, v70, v71, v72, v73, v74, v75, v76, v77, v78, v79, v80, x81, x82, x83, x84, x85, x86, x87, x88, x89, x90, x91, x92, x93, x94, x95, x96, x97, x98, x99, x100, x101, x102, x103, x104, x105, x106, x107, x108, x109, x110, x111, x112, x113, x114, x115, x116, x117, x118, x119, x120, x121, x122, x123, x124, x125, x126, x127, x128, x129, x130, x131, x132, x133, undef], defers := Ds.map mkD }) (fun a V => l.length - (ib (a.tmps.getD 10 undef) V).toNat) ?_ ?_
        · exact ⟨undef, undef, undef, undef, undef, undef, undef, undef, undef, undef, undef, undef, undef, undef, undef, undef, undef, undef, undef, undef, undef, undef, undef, undef, undef, undef, undef, undef, undef, undef, undef, undef, undef, undef, undef, undef, undef, undef, undef, undef, undef, undef, undef, undef, undef, undef, undef, undef, undef, undef, undef, undef, undef, undef, undef, 0, W.heap.size + 1, [], Ds, Nat.zero_le _, h3, Lib.hid rfl, hM3, rfl⟩
        clear h3 hM3
        rintro a V ⟨s11, s12, x81, x82, x83, x84, x85, x86, x87, x88, x89, x90, x91, x92, x93, x94, x95, x96, x97, x98, x99, x100, x101, x102, x103, x104, x105, x106, x107, x108, x109, x110, x111, x112, x113, x114, x115, x116, x117, x118, x119, x120, x121, x122, x123, x124, x125, x126, x127, x128, x129, x130, x131, x132, x133, k, bj, T, Ds3, hk, h3, hT, hM3, rfl⟩
        dsimp only
        have qi := h3.ls.ix.cell 0 _ rfl
        rcases Nat.lt_or_ge k l.length with hkl | hkl
        rotate_left
        · obtain rfl : k = l.length := by omega
          have hTe := hT.out
          rw [txt_end, List.append_nil] at hTe
          have HTE := Lib.hid hTe
          have hsV := h3.ls.ix.lt
          have hb2 := h3.b2
          have HS := Lib.hid (Tryz.Builder_String_any_k W.heap.size W.heap.size T V (Lib.IsBuilderF.of h3.isb) (by omega))
          clear hTe hT
          gi_wp2_with (first
            | (refine ⟨trivial, ?_⟩
               gi_at_call 18
               refine (callsIn_wide.2 HS.out).mono ?_
               rintro e9 w9 ⟨rfl, -, hb9, hok9⟩)
            | fail)
          have hM9 := marks_kept hM3 hok9 (isB_cells h3.isb)
          have hB9 : Below w.heap.size w w9 := h3.ls.bl.trans (hb9.mono (by omega))
          refine MarksAt.leave (v := .tuple #[.string (bN T), .int .i64 0]) (fun W' => by rw [results_tmp2 (t := 2) (u := 3) rfl]; rfl) (fun W' hb => ⟨?_, hb⟩) Ds3 w9 hM9 hB9
          rw [hP.out, HTE.out]
        have hsV := h3.ls.ix.lt
        have hb2 := h3.b2
        obtain ⟨b, o, rfl, hb, -⟩ := Rd.int hr hkl
        have k1 : (k : Int) < l.length := by omega
        have k2 : (k : Int) ≤ l.length := by omega
        gi_wp2_with (first
          | (refine ⟨trivial, ?_⟩
             gi_at_call 15
             refine (callsIn_wide.2 (items_any _ _ _ _)).mono ?_
             rintro e7 w7 ⟨rfl, rfl⟩)
          | fail)
        obtain ⟨wL, hwL⟩ : ∃ wL, (V.alloc (.cells #[.string ⟨#[]⟩, .int .i64 0] 45)).alloc (.cells #[.slice (some ⟨b, o + k, none⟩) (l.length - k) (c - k)] 22) = wL := ⟨_, rfl⟩
        have hBL : Below V.heap.size V wL := by rw [← hwL]; exact ((Below.refl _ _).alloc (Nat.le_refl _) _).alloc (by simp) _
        have hsL : wL.heap.size = V.heap.size + 2 := by rw [← hwL]; simp
        have h3L := h3.on hBL
        have hML := hM3.keep (ko_below hBL)
        have hdl : (l.drop k).length = l.length - k := List.length_drop
        have hbst : Blk wL V.heap.size 45 #[.string (bN []), .int .i64 0] := by rw [← hwL]; exact (Blk.new V _ _).alloc _
        have hbx : Blk wL (V.heap.size + 1) 22 #[.slice (some ⟨b, o + k, none⟩) (l.drop k).length (c - k)] := by
          rw [hdl, ← hwL]
          have := Blk.new (V.alloc (.cells #[.string ⟨#[]⟩, .int .i64 0] 45)) 22 #[.slice (some ⟨b, o + k, none⟩) (l.length - k) (c - k)]
          rw [World.size_alloc] at this
          exact this
        have hIt : ItmAt w wL (some ⟨b, o + k, none⟩) (l.drop k) (c - k) (V.heap.size + 1) := ⟨h, h3L.ls.bl, rdi_drop hr k, hbx⟩
        have hmu := Lib.hid (ib_blk h3.ls.ix)
        rw [hwL]
        clear hwL h3 hM3 qi
        refine rangeFunc_w none (fun r e => by cases e) rfl (by omega) (gf := 32) (lb := #[.pointer (some ⟨V.heap.size + 1, 0, none⟩)]) rfl trivial (enters_of Tryz.func32 (by kernel_rfl) rfl)
          (items_stops _ w (some ⟨b, o + k, none⟩) (l.drop k) (c - k) (V.heap.size + 1) (by omega) (by omega) (hok.drop k) wL hIt) KpI.trans (KpI.put h3L.ls.bl.size) (fun _ => rfl)
          (fun pre X => wL.grownBy X (some V.heap.size) ∧ Blk X V.heap.size 45 #[.string (bN (runI (l.drop k) (pre.map (·.1))).1), .int .i64 (runI (l.drop k) (pre.map (·.1))).2])
          (fun c pre W => False)
          ?hI ?hIx ?h0
          (fun x a' X => ∃ Bx, wL.heap.size ≤ Bx ∧ Blk X Bx 45 #[.string (bN x.1.1), .int .i64 x.1.2] ∧ a' = { tmps := #[.slice (some ⟨b, o, none⟩) l.length c, undef, u2, u3, undef, u5, .pointer (some ⟨w.heap.size + 1, 0, none⟩), .pointer (some ⟨bi, 0, none⟩), s8, .pointer (some ⟨W.heap.size, 0, none⟩), .pointer (some ⟨bj, 0, none⟩), .pointer (some ⟨V.heap.size, 0, none⟩), .pointer (some ⟨Bx, 0, none⟩), .slice (some ⟨b, o, none⟩) l.length c, .int .i64 l.length, .bool false, .slice (some ⟨b, o, none⟩) l.length c, .int .i64 l.length, .int .i64 l.length, .bool false, u20, u21, u22, u23, u24, u25, u26, u27, u28, .slice (some ⟨b, o, none⟩) l.length c, .int .i64 l.length, .int .i64 ((l.length : Int) + 1), .slice (some ⟨w.heap.size, 0, none⟩) (l.length + 1) (l.length + 1), .slice (some ⟨b, o, none⟩) l.length c, .int .i64 l.length, .int .i64 ((l.length : Int) - 1), .int .i64 (-1), .bool false, v38, v39, v40, v41, v42, v43, v44, v45, v46, v47, v48, v49, v50, v51, v52, v53, v54, v55, v56, v57, v58, v59, v60, v61, v62, v63, v64, v65, v66, v67, v68, v69, v70, v71, v72, v73, v74, v75, v76, v77, v78, v79, v80, .int .i64 k, .slice (some ⟨b, o, none⟩) l.length c, .int .i64 l.length, .bool true, .agg #[.string ⟨#[]⟩, .int .i64 0], .slice (some ⟨b, o, none⟩) l.length c, .int .i64 k, .slice (some ⟨b, o + k, none⟩) (l.length - k) (c - k), .func (.func 32) #[] #[.pointer (some ⟨V.heap.size + 1, 0, none⟩)], .agg #[.string (bN x.1.1), .int .i64 x.1.2], x91, x92, x93, x94, x95, x96, x97, x98, x99, x100, x101, x102, x103, x104, x105, x106, x107, x108, x109, x110, x111, x112, x113, x114, x115, x116, x117, x118, x119, x120, x121, x122, x123, x124, x125, x126, x127, x128, x129, x130, x131, x132, x133, undef], defers := [] })
          ?hAx ?assign ?body ?done ?stop
        case hI =>
          rintro pre X Y row ⟨g1, g2⟩ hg hrw
          exact ⟨gb_stp g1 hg (fun r e => .inr (owr hrw r e).1), g2.grown hg (fun e => by have := (owr hrw _ e.symm).1; omega)⟩
        case hIx => exact fun _ _ _ _ _ h => h.elim
        case h0 => exact ⟨gb_rfl _ _, hbst⟩
        case hAx =>
          rintro x a' u X Y row ⟨Bx, h1, h2, h3⟩ hg hrw
          refine ⟨Bx, h1, h2.grown hg (fun e => ?_), h3⟩
          obtain ⟨_, o', ho, hc'⟩ := owr hrw _ e.symm
          rw [show X.heap[Bx]? = _ from h2] at ho
          cases ho; cases hc'
        case assign =>
          rintro lp pre x X K' ⟨g1, g2⟩ hK'
          have hgs := g1.size
          gi_wp2
          refine hK' _ _ ((KeepsOthers.alloc _ _).from _) (KpI.below ((Below.refl _ _).alloc (Nat.le_refl _) _) (by have := h3L.ls.bl.size; omega)) ⟨gb_stp g1 (World.grownBy_alloc X _ none) (fun r e => by cases e), g2.alloc _⟩ ⟨X.heap.size, hgs, Blk.new _ _ _, rfl⟩
        case body =>
          rintro lp pre ⟨⟨s, m⟩, hx⟩ a' X hlp ⟨g1, g2⟩ ⟨Bx, hBx, kX, rfl⟩ _
          simp only at kX
          obtain ⟨y1, y2, y3, y4⟩ := items_ok (hok.drop k) (by omega) (by omega) hx
          simp only at y1 y2 y3 y4
          rw [hdl] at y2
          have hgs := g1.size
          have hLX : LsAt w X l.length (costs l) bj k := h3L.ls.grown g1 (M := V.heap.size) hsV (fun r e => by cases e; exact Nat.le_refl _)
          obtain ⟨bs, hbs⟩ : ∃ x, Hid ((runI (l.drop k) (pre.map (·.1))).1 = x) := ⟨_, Lib.hid rfl⟩
          obtain ⟨bm, hbm⟩ : ∃ x, Hid ((runI (l.drop k) (pre.map (·.1))).2 = x) := ⟨_, Lib.hid rfl⟩
          have hro := runI_ok (hok.drop k) (by omega) (by omega) (pre.map (·.1)) (fun y hy => by
            obtain ⟨z, hz, rfl⟩ := List.mem_map.1 hy
            exact z.2)
          rw [hbs.out, hbm.out] at g2
          have hro1 := hro.1
          rw [hbs.out] at hro1
          have hro2 := hro.2.1
          rw [hbm.out, hdl] at hro2
          obtain ⟨c0, hc0⟩ : ∃ x, Hid ((costs (l.drop k)).headD 0 = x) := ⟨_, Lib.hid rfl⟩
          obtain ⟨cx, hcx⟩ : ∃ x, Hid ((costs (l.drop k)).getD m 0 = x) := ⟨_, Lib.hid rfl⟩
          have hnx : Hid (runI (l.drop k) ((pre ++ [(⟨(s, m), hx⟩ : ItA (l.drop k))]).map (·.1)) = if (s.length : Int) + 1 + cx = c0 ∧ (bm = 0 ∨ Op.bytesLess (s ++ [44]) (bs ++ [44]) = true) then (s, m) else (bs, bm)) := by
            rw [Hid, List.map_append, List.map_cons, List.map_nil, runI_next, ← hbs.out, ← hbm.out, ← hc0.out, ← hcx.out]
            rfl
          have hcl : (costs l).length = l.length + 1 := costs_len l
          have hq : Hid (X.cell? ⟨w.heap.size, k, none⟩ = some (.int .i64 c0) ∧ X.cell? ⟨w.heap.size, k + m, none⟩ = some (.int .i64 cx)) := by
            refine Lib.hid ⟨?_, ?_⟩
            · have := hLX.rowc (k := k) (by omega)
              have e := costs_row l (k := k) (m := 0) (by omega) (by omega)
              simp only [Nat.add_zero] at e
              rw [this, e, ← costs_head, hc0.out]
            · have := hLX.rowc (k := k + m) (by omega)
              rw [this, costs_row l (by omega) (by omega), hcx.out]
          have hcb0 : 0 ≤ c0 ∧ c0 ≤ 3000 := by
            have := costs_bd (l.drop k) 0
            rw [← costs_head, hc0.out, hdl] at this; omega
          have hcbx : 0 ≤ cx ∧ cx ≤ 3000 := by
            have := costs_bd (l.drop k) m
            rw [hcx.out, hdl] at this; omega
          have hzs : (bN s).size = s.length := rfl
          have j1 : IntKind.i64.wrap ((k : Int) + (m : Int)) = (k : Int) + (m : Int) := by unfold IntKind.wrap; simp [IntKind.signed, IntKind.bits]; omega
          have j2 : IntKind.i64.wrap ((s.length : Int) + 1) = (s.length : Int) + 1 := by unfold IntKind.wrap; simp [IntKind.signed, IntKind.bits]; omega
          have j3 : IntKind.i64.wrap ((s.length : Int) + 1 + cx) = (s.length : Int) + 1 + cx := by unfold IntKind.wrap; simp [IntKind.signed, IntKind.bits]; omega
          have j4 : 0 ≤ (k : Int) + (m : Int) := by omega
          have j5 : (k : Int) + (m : Int) < (l.length : Int) + 1 := by omega
          have j6 : ((k : Int) + (m : Int)).toNat = k + m := by omega
          have j7 : (k : Int) < (l.length : Int) + 1 := by omega
          have s1 : (bN s).size + (⟨#[44]⟩ : ByteArray).size ≤ 9223372036854775807 := by show s.length + 1 ≤ _; omega
          have s2 : (bN bs).size + (⟨#[44]⟩ : ByteArray).size ≤ 9223372036854775807 := by show bs.length + 1 ≤ _; omega
          have c4 := bN2 s 44
          have c5 := bN2 bs 44
          clear hbs hbm hro hc0 hcx hcl
          by_cases e1 : (s.length : Int) + 1 + cx = c0
          · have t1 : ((s.length : Int) + 1 + cx == c0) = true := by rw [e1]; simp
            have t2 : decide ((s.length : Int) + 1 + cx = c0) = true := decide_eq_true e1
            by_cases e2 : bm = 0
            · have t3 : ((bm : Int) == 0) = true := by rw [e2]; rfl
              have t4 : decide ((bm : Int) = 0) = true := decide_eq_true (by omega)
              have hn2 := Lib.hid (show runI (l.drop k) ((pre ++ [(⟨(s, m), hx⟩ : ItA (l.drop k))]).map (·.1)) = (s, m) by rw [hnx.out, if_pos ⟨e1, .inl e2⟩])
              have E1 := Lib.hid e1
              have E2 := Lib.hid e2
              clear e1 e2 hnx
              gi_wp2
              refine region_round_quiet (by kernel_rfl) (by kernel_rfl) (by kernel_rfl) ?_
              have p1 := hLX.bx.cell 0 _ rfl
              have p2 := hLX.ix.cell 0 _ rfl
              have p3 := kX.cell 0 _ rfl
              have p4 := kX.cell 1 _ rfl
              have p5 := g2.cell 0 _ rfl
              have p6 := g2.cell 1 _ rfl
              have p7 := hq.out.1
              have p8 := hq.out.2
              repeat (go_big_quiet_step (fail))
              refine wpQuiet_nil ?_
              rintro _ ⟨q, rfl⟩
              have hBq : Below X.heap.size X (X.drewN q) := (Below.refl _ _).drewN q
              clear p1 p2 p3 p4 p5 p6 p7 p8
              obtain ⟨Y, hY⟩ : ∃ Y, X.drewN q = Y := ⟨_, rfl⟩
              rw [hY] at hBq ⊢
              clear hY
              have kXY := kX.below' hBq
              have g2Y := g2.below' hBq
              have p3 := kXY.cell 0 _ rfl
              have p4 := kXY.cell 1 _ rfl
              have p5 := g2Y.cell 0 _ rfl
              have p6 := g2Y.cell 1 _ rfl
              have p7 := g2Y.frozen 0
              have p8 := g2Y.frozen 1
              have p9 := g2Y.lt
              gi_wp2
              have hwl := h3L.ls.bl.size
              have hwv : w.heap.size ≤ V.heap.size := by have := h3L.b1; omega
              have f1 := (g2Y.set_ 0 (.string (bN s)))
              refine ⟨(kfb hBq).trans (((KeepsOthers.setCell _ _ _).trans (KeepsOthers.setCell _ _ _)).from _), ((KpI.below hBq (by omega)).trans (kpi_setT g2Y (by decide) hwv 0 _)).trans (kpi_setT f1 (by decide) hwv 1 _), gb_stp (gb_stp (gb_stp g1 (grows_none hBq) (fun r e => by cases e)) (gb_setk _ _ 0 _) (fun r e => by cases e; exact .inl rfl)) (gb_setk _ _ 1 _) (fun r e => by cases e; exact .inl rfl), ?_⟩
              rw [hn2.out]
              exact f1.set_ 1 _
            · have t3 : ((bm : Int) == 0) = false := beq_eq_false_iff_ne.2 (by omega)
              have t4 : decide ((bm : Int) = 0) = false := decide_eq_false (by omega)
              have E1 := Lib.hid e1
              have E2 := Lib.hid e2
              have tb1 : (bN (s ++ [44])).toList = s ++ [44] := Lib.toList_data _
              have tb2 : (bN (bs ++ [44])).toList = bs ++ [44] := Lib.toList_data _
              cases hlt : Op.bytesLess (s ++ [44]) (bs ++ [44])
              · have hn2 := Lib.hid (show runI (l.drop k) ((pre ++ [(⟨(s, m), hx⟩ : ItA (l.drop k))]).map (·.1)) = (bs, bm) by rw [hnx.out, if_neg (fun h => by rcases h.2 with h | h; exact e2 h; rw [hlt] at h; cases h)])
                clear e1 e2 hnx
                gi_wp2
                refine region_round_quiet (by kernel_rfl) (by kernel_rfl) (by kernel_rfl) ?_
                have p1 := hLX.bx.cell 0 _ rfl
                have p2 := hLX.ix.cell 0 _ rfl
                have p3 := kX.cell 0 _ rfl
                have p4 := kX.cell 1 _ rfl
                have p5 := g2.cell 0 _ rfl
                have p6 := g2.cell 1 _ rfl
                have p7 := hq.out.1
                have p8 := hq.out.2
                repeat (go_big_quiet_step (fail))
                refine wpQuiet_nil ?_
                rintro _ ⟨q, rfl⟩
                have hBq : Below X.heap.size X (X.drewN q) := (Below.refl _ _).drewN q
                clear p1 p2 p3 p4 p5 p6 p7 p8
                obtain ⟨Y, hY⟩ : ∃ Y, X.drewN q = Y := ⟨_, rfl⟩
                rw [hY] at hBq ⊢
                clear hY
                gi_wp2
                refine ⟨kfb hBq, KpI.below hBq (by have := h3L.ls.bl.size; omega), gb_stp g1 (grows_none hBq) (fun r e => by cases e), ?_⟩
                rw [hn2.out]
                exact g2.below' hBq
              · have hn2 := Lib.hid (show runI (l.drop k) ((pre ++ [(⟨(s, m), hx⟩ : ItA (l.drop k))]).map (·.1)) = (s, m) by rw [hnx.out, if_pos ⟨e1, .inr hlt⟩])
                clear e1 e2 hnx
                gi_wp2
                refine region_round_quiet (by kernel_rfl) (by kernel_rfl) (by kernel_rfl) ?_
                have p1 := hLX.bx.cell 0 _ rfl
                have p2 := hLX.ix.cell 0 _ rfl
                have p3 := kX.cell 0 _ rfl
                have p4 := kX.cell 1 _ rfl
                have p5 := g2.cell 0 _ rfl
                have p6 := g2.cell 1 _ rfl
                have p7 := hq.out.1
                have p8 := hq.out.2
                repeat (go_big_quiet_step (fail))
                refine wpQuiet_nil ?_
                rintro _ ⟨q, rfl⟩
                have hBq : Below X.heap.size X (X.drewN q) := (Below.refl _ _).drewN q
                clear p1 p2 p3 p4 p5 p6 p7 p8
                obtain ⟨Y, hY⟩ : ∃ Y, X.drewN q = Y := ⟨_, rfl⟩
                rw [hY] at hBq ⊢
                clear hY
                have kXY := kX.below' hBq
                have g2Y := g2.below' hBq
                have p3 := kXY.cell 0 _ rfl
                have p4 := kXY.cell 1 _ rfl
                have p5 := g2Y.cell 0 _ rfl
                have p6 := g2Y.cell 1 _ rfl
                have p7 := g2Y.frozen 0
                have p8 := g2Y.frozen 1
                have p9 := g2Y.lt
                gi_wp2
                have hwl := h3L.ls.bl.size
                have hwv : w.heap.size ≤ V.heap.size := by have := h3L.b1; omega
                have f1 := (g2Y.set_ 0 (.string (bN s)))
                refine ⟨(kfb hBq).trans (((KeepsOthers.setCell _ _ _).trans (KeepsOthers.setCell _ _ _)).from _), ((KpI.below hBq (by omega)).trans (kpi_setT g2Y (by decide) hwv 0 _)).trans (kpi_setT f1 (by decide) hwv 1 _), gb_stp (gb_stp (gb_stp g1 (grows_none hBq) (fun r e => by cases e)) (gb_setk _ _ 0 _) (fun r e => by cases e; exact .inl rfl)) (gb_setk _ _ 1 _) (fun r e => by cases e; exact .inl rfl), ?_⟩
                rw [hn2.out]
                exact f1.set_ 1 _
          · have t1 : ((s.length : Int) + 1 + cx == c0) = false := beq_eq_false_iff_ne.2 e1
            have t2 : decide ((s.length : Int) + 1 + cx = c0) = false := decide_eq_false e1
            have hn2 := Lib.hid (show runI (l.drop k) ((pre ++ [(⟨(s, m), hx⟩ : ItA (l.drop k))]).map (·.1)) = (bs, bm) by rw [hnx.out, if_neg (fun h => e1 h.1)])
            clear e1 hnx
            gi_wp2
            refine region_round_quiet (by kernel_rfl) (by kernel_rfl) (by kernel_rfl) ?_
            have p1 := hLX.bx.cell 0 _ rfl
            have p2 := hLX.ix.cell 0 _ rfl
            have p3 := kX.cell 0 _ rfl
            have p4 := kX.cell 1 _ rfl
            have p5 := g2.cell 0 _ rfl
            have p6 := g2.cell 1 _ rfl
            have p7 := hq.out.1
            have p8 := hq.out.2
            repeat (go_big_quiet_step (fail))
            refine wpQuiet_nil ?_
            rintro _ ⟨q, rfl⟩
            have hBq : Below X.heap.size X (X.drewN q) := (Below.refl _ _).drewN q
            clear p1 p2 p3 p4 p5 p6 p7 p8
            obtain ⟨Y, hY⟩ : ∃ Y, X.drewN q = Y := ⟨_, rfl⟩
            rw [hY] at hBq ⊢
            clear hY
            gi_wp2
            refine ⟨kfb hBq, KpI.below hBq (by have := h3L.ls.bl.size; omega), gb_stp g1 (grows_none hBq) (fun r e => by cases e), ?_⟩
            rw [hn2.out]
            exact g2.below' hBq
        case done =>
          rintro D ys Y hD hS ⟨g1, g2⟩ hK9
          have hbest : runI (l.drop k) (ys.map (·.1)) = bestI (l.drop k) := by rw [hS]; exact runI_all _
          rw [hbest] at g2
          obtain ⟨y1, y2, y3, y4⟩ := (best_ok (hok.drop k) (by omega) (by omega)).2
          obtain ⟨bs, hbs⟩ : ∃ x, Hid ((bestI (l.drop k)).1 = x) := ⟨_, Lib.hid rfl⟩
          obtain ⟨m, hbm⟩ : ∃ x, Hid ((bestI (l.drop k)).2 = x) := ⟨_, Lib.hid rfl⟩
          rw [hbs.out, hbm.out] at g2
          rw [hbm.out] at y1 y2
          rw [hbs.out] at y3
          rw [hdl] at y2
          have hko : KeepsOthers wL Y := KeepsOthers.of_grownBy g1 (fun j o' e ho => by cases e; rw [show wL.heap[_]? = _ from hbst] at ho; cases ho; rfl)
          have hwl := h3L.ls.bl.size
          have hM9 : MarksAt w.heap.size (D :: Ds3) Y := hML.cons hko hD hwl hK9
          have hLY : LsAt w Y l.length (costs l) bj k := h3L.ls.grown g1 (M := V.heap.size) hsV (fun r e => by cases e; exact Nat.le_refl _)
          have hIB : IsB W.heap.size W.heap.size (Lib.byteCells T) Y := h3L.isb.grown g1 (fun r e => by cases e; exact ⟨_, _, hbst, by decide, by decide⟩)
          have hgs := g1.size
          have hTl := txt_len hok (by omega) hT.out
          have qi := hLY.ix.cell 0 _ rfl
          have p5 := g2.cell 0 _ rfl
          have p6 := g2.cell 1 _ rfl
          have hbk : (Lib.byteCells T).length ≤ 6000 := by rw [Lib.byteCells_length]; omega
          have hzs : (bN bs).size = bs.length := rfl
          have b1 := h3L.b1
          have j1 : IntKind.i64.wrap ((k : Int) + (m : Int)) = (k : Int) + (m : Int) := by unfold IntKind.wrap; simp [IntKind.signed, IntKind.bits]; omega
          rcases Nat.eq_zero_or_pos k with hk0 | hk0
          · have k3 : ¬ (0 : Int) < (k : Int) := by omega
            have hTn : Hid (joinC (pcs l) = (T ++ bs) ++ restT l (k + m)) := by
              have h1 := hT.out
              subst hk0
              rw [txt_first hok (by omega) (by omega)] at h1
              simp only [List.drop_zero] at hbs hbm
              rw [hbs.out, hbm.out, ← List.append_assoc] at h1
              exact Lib.hid h1
            have HK0 := Lib.hid hk0
            have HW := Lib.hid (writeString_ko W.heap.size W.heap.size (Lib.byteCells T) (bN bs) Y hIB (by rw [hzs]; omega) (by omega))
            clear hk0 hT hbest
            gi_wp2_with (first
              | (refine ⟨trivial, ?_⟩
                 gi_at_call 17
                 refine (callsIn_wide.2 HW.out).mono ?_
                 rintro e9 Y2 ⟨rfl, ⟨hi2, hb2', hk2⟩, hko2⟩
                 have hL2 := hLY.wrote hb2' hk2 b1 (by omega)
                 have g3 : Blk Y2 V.heap.size 45 #[.string (bN bs), .int .i64 m] := hk2 _ _ _ g2 (by decide) (by omega)
                 have r1 := hL2.ix.cell 0 _ rfl
                 have r2 := hL2.ix.frozen 0
                 have r3 := hL2.ix.lt
                 have r5 := g3.cell 0 _ rfl
                 have r6 := g3.cell 1 _ rfl)
              | fail)
            rw [bytes_cat] at hi2
            obtain ⟨n1, n2⟩ := L3At.next hL2 hi2 b1 h3L.b2 m
            refine ⟨⟨_, _, _, _, _, _, _, _, _, _, _, _, _, _, _, _, _, _, _, _, _, _, _, _, _, _, _, _, _, _, _, _, _, _, _, _, _, _, _, _, _, _, _, _, _, _, _, _, _, _, _, _, _, _, _, k + m, Y2.heap.size, T ++ bs, D :: Ds3, by omega, n1, hTn, hM9.keep (hko2.trans n2), rfl⟩, ?_⟩
            show l.length - (ib (.pointer (some ⟨Y2.heap.size, 0, none⟩)) _).toNat < l.length - (ib (.pointer (some ⟨bj, 0, none⟩)) V).toNat
            rw [hmu.out, ib_blk n1.ls.ix]
            omega
          · have k3 : (0 : Int) < (k : Int) := by omega
            have hTn : Hid (joinC (pcs l) = (T ++ [44] ++ bs) ++ restT l (k + m)) := by
              have h1 := hT.out
              rw [txt_next hok hkl (by omega) (by omega), hbs.out, hbm.out] at h1
              rw [h1]
              exact Lib.hid (by simp)
            have HW0 := Lib.hid (writeByte_any W.heap.size W.heap.size (Lib.byteCells T) 44 Y hIB (by omega) (by omega))
            clear hT hbest
            gi_wp2_with (first
              | (refine ⟨trivial, ?_⟩
                 gi_at_call 16
                 refine (callsIn_wide.2 HW0.out).mono ?_
                 rintro e8 Y1 ⟨rfl, ⟨hi1, hb1', hk1'⟩, hko1⟩
                 have hL1' := hLY.wrote hb1' hk1' b1 (by omega)
                 have g3' : Blk Y1 V.heap.size 45 #[.string (bN bs), .int .i64 m] := hk1' _ _ _ g2 (by decide) (by omega)
                 have r1' := g3'.cell 0 _ rfl
                 have r2' := g3'.cell 1 _ rfl
                 rw [bytes_one] at hi1
                 have hss := hb1'.size)
              | (refine ⟨trivial, ?_⟩
                 gi_at_call 17
                 refine (callsIn_wide.2 (writeString_ko W.heap.size W.heap.size (Lib.byteCells (T ++ [44])) (bN bs) Y1 hi1 (by rw [Lib.byteCells_length, List.length_append, hzs]; simp; omega) (by omega))).mono ?_
                 rintro e9 Y2 ⟨rfl, ⟨hi2, hb2', hk2⟩, hko2⟩
                 have hL2 := hL1'.wrote hb2' hk2 b1 (by omega)
                 have g3 : Blk Y2 V.heap.size 45 #[.string (bN bs), .int .i64 m] := hk2 _ _ _ g3' (by decide) (by omega)
                 have r1 := hL2.ix.cell 0 _ rfl
                 have r2 := hL2.ix.frozen 0
                 have r3 := hL2.ix.lt
                 have r5 := g3.cell 0 _ rfl
                 have r6 := g3.cell 1 _ rfl)
              | fail)
            rw [bytes_cat] at hi2
            obtain ⟨n1, n2⟩ := L3At.next hL2 hi2 b1 h3L.b2 m
            refine ⟨⟨_, _, _, _, _, _, _, _, _, _, _, _, _, _, _, _, _, _, _, _, _, _, _, _, _, _, _, _, _, _, _, _, _, _, _, _, _, _, _, _, _, _, _, _, _, _, _, _, _, _, _, _, _, _, _, k + m, Y2.heap.size, T ++ [44] ++ bs, D :: Ds3, by omega, n1, hTn, hM9.keep ((hko1.trans hko2).trans n2), rfl⟩, ?_⟩
            show l.length - (ib (.pointer (some ⟨Y2.heap.size, 0, none⟩)) _).toNat < l.length - (ib (.pointer (some ⟨bj, 0, none⟩)) V).toNat
            rw [hmu.out, ib_blk n1.ls.ix]
            omega
        case stop => exact fun _ _ _ _ _ _ h _ => h.elim
      obtain ⟨i, rfl⟩ : ∃ i, k = i + 1 := ⟨k - 1, by omega⟩
      have hil : i < l.length := by omega
      have hL2 : LsAt w W l.length (rowM l i 0) bi i := by
        have := hL
        rw [row_before l hil, show ((i + 1 : Nat) : Int) - 1 = i by omega] at this
        exact this
      clear hL hL1
      have hmu := Lib.hid (ib_blk hL2.ix)
      have qi := hL2.ix.cell 0 _ rfl
      gi_wp2
      obtain ⟨b, o, rfl, hb, hc⟩ := Rd.int hr hil
      obtain ⟨v, hv⟩ : ∃ v, Hid (l[i] = v) := ⟨_, Lib.hid rfl⟩
      rw [hv.out] at hc
      have hv9 : 0 ≤ v ∧ v ≤ 9999 := by rw [← hv.out]; exact hok _ (List.getElem_mem hil)
      obtain ⟨c1, hc1⟩ : ∃ c1, Hid ((costs (l.drop (i + 1))).getD 0 0 = c1) := ⟨_, Lib.hid rfl⟩
      have hcb : 0 ≤ c1 ∧ c1 ≤ 3000 := by
        have := costs_bd (l.drop (i + 1)) 0
        rw [hc1.out, List.length_drop] at this
        omega
      have hrl : i + 1 < (rowM l i 0).length := by rw [rowM_len hil]; omega
      have hq1 := hL2.rowc hrl
      rw [rowM_next l hil 0 1 (by omega) hrl, show 1 - 1 = 0 from rfl, hc1.out] at hq1
      have hS2 : W.drew.cell? ⟨w.heap.size + 1, 0, none⟩ = some (.slice (some ⟨w.heap.size, 0, none⟩) (l.length + 1) (l.length + 1)) ∧ W.drew.cell? ⟨bi, 0, none⟩ = some (.int .i64 i) ∧ W.drew.cell? ⟨b, o + i, none⟩ = some (.int .i64 v) ∧ W.drew.cell? ⟨w.heap.size, i + 1, none⟩ = some (.int .i64 c1) :=
        ⟨hL2.bx.cell 0 _ rfl, qi, (hL2.bl.cell (p := ⟨b, o + i, none⟩) hb).trans hc, hq1⟩
      have hWd : WdAt W.drew := h.below (hL2.bl.trans ((Below.refl _ _).drew))
      have hsb := sizeW_bd v
      have i1 : (i : Int) < l.length := by omega
      have i2 : (i : Int) + 1 < (l.length : Int) + 1 := by omega
      have i3 : (i : Int) < (l.length : Int) + 1 := by omega
      obtain ⟨sz, hsz⟩ : ∃ sz, Hid (sizeW v = sz) := ⟨_, Lib.hid rfl⟩
      rw [hsz.out] at hsb
      have HSZ := Lib.hid (fun (W' : World) (hw : WdAt W') => (by have := size_any v W' hw; rw [hsz.out] at this; exact this : Calls Tryz.prog 14 #[.int .i64 v] W' (Ret (.int .i64 sz) W')))
      clear hc hq1 qi
      have iw1 : IntKind.i64.wrap ((i : Int) + 1) = (i : Int) + 1 := by unfold IntKind.wrap; simp [IntKind.signed, IntKind.bits]; omega
      have iw2 : IntKind.i64.wrap (sz + 1) = sz + 1 := by unfold IntKind.wrap; simp [IntKind.signed, IntKind.bits]; omega
      have iw3 : IntKind.i64.wrap (sz + 1 + c1) = sz + 1 + c1 := by unfold IntKind.wrap; simp [IntKind.signed, IntKind.bits]; omega
      have i4 : 0 ≤ (i : Int) + 1 := by omega
      refine region_wide_J (fun _ => True) (fun W' => W'.cell? ⟨w.heap.size + 1, 0, none⟩ = some (.slice (some ⟨w.heap.size, 0, none⟩) (l.length + 1) (l.length + 1)) ∧ W'.cell? ⟨bi, 0, none⟩ = some (.int .i64 i) ∧ W'.cell? ⟨b, o + i, none⟩ = some (.int .i64 v) ∧ W'.cell? ⟨w.heap.size, i + 1, none⟩ = some (.int .i64 c1)) (fun i => i != 15) (by kernel_rfl) ?_
      refine wpAnyJ_take2 0 rfl (by kernel_rfl) (by kernel_rfl) (by kernel_rfl) (by kernel_rfl) (fun _ _ _ h => h) (by rfl) trivial hS2 (fun w' hSw => (by obtain ⟨-, z0, z1, z2, z3⟩ := hSw; go_simp; try (with_reducible rfl))) ?_
      try simp only [Act.put, List.getElem_toArray, List.getElem_cons_succ, List.getElem_cons_zero, List.setIfInBounds_toArray, List.set_cons_zero, List.set_cons_succ]
      refine wpAnyJ_take2 1 rfl (by kernel_rfl) (by kernel_rfl) (by kernel_rfl) (by kernel_rfl) (fun _ _ _ h => h) (by rfl) trivial hS2 (fun w' hSw => (by obtain ⟨-, z0, z1, z2, z3⟩ := hSw; go_simp; try (with_reducible rfl))) ?_
      try simp only [Act.put, List.getElem_toArray, List.getElem_cons_succ, List.getElem_cons_zero, List.setIfInBounds_toArray, List.set_cons_zero, List.set_cons_succ]
      refine wpAnyJ_take2 2 rfl (by kernel_rfl) (by kernel_rfl) (by kernel_rfl) (by kernel_rfl) (fun _ _ _ h => h) (by rfl) trivial hS2 (fun w' hSw => (by obtain ⟨-, z0, z1, z2, z3⟩ := hSw; go_simp; try (with_reducible rfl))) ?_
      try simp only [Act.put, List.getElem_toArray, List.getElem_cons_succ, List.getElem_cons_zero, List.setIfInBounds_toArray, List.set_cons_zero, List.set_cons_succ]
      refine wpAnyJ_take2 3 rfl (by kernel_rfl) (by kernel_rfl) (by kernel_rfl) (by kernel_rfl) (fun _ _ _ h => h) (by rfl) trivial hS2 (fun w' hSw => (by obtain ⟨-, z0, z1, z2, z3⟩ := hSw; go_simp; try (with_reducible rfl))) ?_
      try simp only [Act.put, List.getElem_toArray, List.getElem_cons_succ, List.getElem_cons_zero, List.setIfInBounds_toArray, List.set_cons_zero, List.set_cons_succ]
      refine wpAnyJ_take2 4 rfl (by kernel_rfl) (by kernel_rfl) (by kernel_rfl) (by kernel_rfl) (fun _ _ _ h => h) (by rfl) trivial hS2 (fun w' hSw => (by obtain ⟨-, z0, z1, z2, z3⟩ := hSw; go_simp; try (with_reducible rfl))) ?_
      try simp only [Act.put, List.getElem_toArray, List.getElem_cons_succ, List.getElem_cons_zero, List.setIfInBounds_toArray, List.set_cons_zero, List.set_cons_succ]
      refine wpAnyJ_take2 5 rfl (by kernel_rfl) (by kernel_rfl) (by kernel_rfl) (by kernel_rfl) (fun _ _ _ h => h) (by rfl) trivial hS2 (fun w' hSw => (by obtain ⟨-, z0, z1, z2, z3⟩ := hSw; go_simp; try (with_reducible rfl))) ?_
      try simp only [Act.put, List.getElem_toArray, List.getElem_cons_succ, List.getElem_cons_zero, List.setIfInBounds_toArray, List.set_cons_zero, List.set_cons_succ]
      refine wpAnyJ_take2 8 rfl (by kernel_rfl) (by kernel_rfl) (by kernel_rfl) (by kernel_rfl) (fun _ _ _ h => h) (by rfl) trivial hS2 (fun w' hSw => (by obtain ⟨-, z0, z1, z2, z3⟩ := hSw; go_simp; try (with_reducible rfl))) ?_
      try simp only [Act.put, List.getElem_toArray, List.getElem_cons_succ, List.getElem_cons_zero, List.setIfInBounds_toArray, List.set_cons_zero, List.set_cons_succ]
      refine wpAnyJ_take2 9 rfl (by kernel_rfl) (by kernel_rfl) (by kernel_rfl) (by kernel_rfl) (fun _ _ _ h => h) (by rfl) trivial hS2 (fun w' hSw => (by obtain ⟨-, z0, z1, z2, z3⟩ := hSw; go_simp; try (with_reducible rfl))) ?_
      try simp only [Act.put, List.getElem_toArray, List.getElem_cons_succ, List.getElem_cons_zero, List.setIfInBounds_toArray, List.set_cons_zero, List.set_cons_succ]
      refine wpAnyJ_take2 10 rfl (by kernel_rfl) (by kernel_rfl) (by kernel_rfl) (by kernel_rfl) (fun _ _ _ h => h) (by rfl) trivial hS2 (fun w' hSw => (by obtain ⟨-, z0, z1, z2, z3⟩ := hSw; go_simp; try (with_reducible rfl))) ?_
      try simp only [Act.put, List.getElem_toArray, List.getElem_cons_succ, List.getElem_cons_zero, List.setIfInBounds_toArray, List.set_cons_zero, List.set_cons_succ]
      refine wpAnyJ_take2 11 rfl (by kernel_rfl) (by kernel_rfl) (by kernel_rfl) (by kernel_rfl) (fun _ _ _ h => h) (by rfl) trivial hS2 (fun w' hSw => (by obtain ⟨-, z0, z1, z2, z3⟩ := hSw; go_simp; try (with_reducible rfl))) ?_
      try simp only [Act.put, List.getElem_toArray, List.getElem_cons_succ, List.getElem_cons_zero, List.setIfInBounds_toArray, List.set_cons_zero, List.set_cons_succ]
      refine wpAnyJ_take2 12 rfl (by kernel_rfl) (by kernel_rfl) (by kernel_rfl) (by kernel_rfl) (fun _ _ _ h => h) (by rfl) trivial hS2 (fun w' hSw => (by obtain ⟨-, z0, z1, z2, z3⟩ := hSw; go_simp; try (with_reducible rfl))) ?_
      try simp only [Act.put, List.getElem_toArray, List.getElem_cons_succ, List.getElem_cons_zero, List.setIfInBounds_toArray, List.set_cons_zero, List.set_cons_succ]
      refine wpAnyJ_ready [6] (by kernel_rfl) (by simp) (NextJ.cons rfl (fun K hK => ?_) NextJ.nil)
      go_simp
      refine (HSZ.out _ hWd).mono ?_
      rintro e5 w5 ⟨rfl, hB5⟩
      have hBk : Below W.heap.size W w5 := ((Below.refl W.heap.size W).drew).trans hB5
      have hL5 := hL2.on hBk
      have hM5 := hM.keep (ko_below hBk)
      have hS5 : w5.cell? ⟨w.heap.size + 1, 0, none⟩ = some (.slice (some ⟨w.heap.size, 0, none⟩) (l.length + 1) (l.length + 1)) ∧ w5.cell? ⟨bi, 0, none⟩ = some (.int .i64 i) ∧ w5.cell? ⟨b, o + i, none⟩ = some (.int .i64 v) ∧ w5.cell? ⟨w.heap.size, i + 1, none⟩ = some (.int .i64 c1) :=
        ⟨(hBk.cell (p := ⟨w.heap.size + 1, 0, none⟩) (lt_of_cell hS2.1)).trans hS2.1, (hBk.cell (p := ⟨bi, 0, none⟩) (lt_of_cell hS2.2.1)).trans hS2.2.1, (hBk.cell (p := ⟨b, o + i, none⟩) (lt_of_cell hS2.2.2.1)).trans hS2.2.2.1, (hBk.cell (p := ⟨w.heap.size, i + 1, none⟩) (lt_of_cell hS2.2.2.2)).trans hS2.2.2.2⟩
      refine hK.out _ _ trivial (fun _ => hS5) ?_
      clear hK K hS2 hB5
      try simp only [Act.put, List.getElem_toArray, List.getElem_cons_succ, List.getElem_cons_zero, List.setIfInBounds_toArray, List.set_cons_zero, List.set_cons_succ]
      refine wpAnyJ_ready [7] (by kernel_rfl) (by simp) (NextJ.cons rfl (fun K hK => ?_) NextJ.nil)
      go_simp
      refine hK.out _ _ trivial (fun _ => hS5) ?_
      clear hK K
      try simp only [Act.put, List.getElem_toArray, List.getElem_cons_succ, List.getElem_cons_zero, List.setIfInBounds_toArray, List.set_cons_zero, List.set_cons_succ]
      refine wpAnyJ_ready [13] (by kernel_rfl) (by simp) (NextJ.cons rfl (fun K hK => ?_) NextJ.nil)
      go_simp
      refine hK.out _ _ trivial (fun _ => hS5) ?_
      clear hK K
      try simp only [Act.put, List.getElem_toArray, List.getElem_cons_succ, List.getElem_cons_zero, List.setIfInBounds_toArray, List.set_cons_zero, List.set_cons_succ]
      refine wpAnyJ_ready [14] (by kernel_rfl) (by simp) (NextJ.cons rfl (fun K hK => ?_) NextJ.nil)
      go_simp
      refine hK.out _ _ trivial (fun _ => hS5) ?_
      clear hK K
      try simp only [Act.put, List.getElem_toArray, List.getElem_cons_succ, List.getElem_cons_zero, List.setIfInBounds_toArray, List.set_cons_zero, List.set_cons_succ]
      have qr := hL5.rowc (k := i) (by rw [rowM_len hil]; omega)
      have ql := hL5.row.lt
      have qf := hL5.row.frozen i
      refine wpAnyJ_ready [15] (by kernel_rfl) (by simp) (NextJ.cons rfl (fun K hK => ?_) NextJ.nil)
      go_simp
      refine hK.out _ _ trivial (fun h => absurd h (by decide)) ?_
      clear hK K
      try simp only [Act.put, List.getElem_toArray, List.getElem_cons_succ, List.getElem_cons_zero, List.setIfInBounds_toArray, List.set_cons_zero, List.set_cons_succ]
      refine wpAnyJ_done (by kernel_rfl) (onlyN_in ?_) _
      obtain ⟨W6, hW6⟩ : ∃ W6, w5.setCell ⟨w.heap.size, i, none⟩ (.int .i64 (sz + 1 + c1)) = W6 := ⟨_, rfl⟩
      have hrc : runC (l.drop i) [] = sz + 1 + c1 := by
        unfold runC
        rw [List.drop_eq_getElem_cons hil, hv.out]
        simp only [List.headD_cons, List.tail_cons, List.foldl_nil]
        rw [hsz.out, costs_head, hc1.out]
      have hL6 : LsAt w W6 l.length (rowM l i (runC (l.drop i) [])) bi i := by
        have := hL5.put i (sz + 1 + c1)
        rw [rowM_set, hW6, ← hrc] at this
        exact this
      have hM6 : MarksAt w.heap.size Ds W6 := by rw [← hW6]; exact hM5.keep (KeepsOthers.setCell _ _ _)
      rw [hW6]
      clear hW6 hL5 hM5 hS5 qr ql qf hrc hBk hL2 hM hWd HSZ iw1 iw2 iw3 hsz hc1 hcb hsb w5
      have qi := hL6.ix.cell 0 _ rfl
      have i5 : (i : Int) ≤ l.length := by omega
      gi_wp2_with (first
        | (refine ⟨trivial, ?_⟩
           gi_at_call 15
           refine (callsIn_wide.2 (items_any _ _ _ _)).mono ?_
           rintro e7 w7 ⟨rfl, rfl⟩)
        | fail)
      obtain ⟨wL, hwL⟩ : ∃ wL, W6.alloc (.cells #[.slice (some ⟨b, o + i, none⟩) (l.length - i) (c - i)] 22) = wL := ⟨_, rfl⟩
      have hBL : Below W6.heap.size W6 wL := by rw [← hwL]; exact (Below.refl _ _).alloc (Nat.le_refl _) _
      have hsL : wL.heap.size = W6.heap.size + 1 := by rw [← hwL]; simp
      have hLL := hL6.on hBL
      have hML := hM6.keep (ko_below hBL)
      have hdl : (l.drop i).length = l.length - i := List.length_drop
      have hbx : Blk wL W6.heap.size 22 #[.slice (some ⟨b, o + i, none⟩) (l.drop i).length (c - i)] := by rw [hdl, ← hwL]; exact Blk.new _ _ _
      have hIt : ItmAt w wL (some ⟨b, o + i, none⟩) (l.drop i) (c - i) W6.heap.size := ⟨h, hLL.bl, rdi_drop hr i, hbx⟩
      have hbi6 := hL6.ix.lt
      rw [hwL]
      clear hwL hL6 hM6 qi
      refine rangeFunc_w none (fun r e => by cases e) rfl (by omega) (gf := 32) (lb := #[.pointer (some ⟨W6.heap.size, 0, none⟩)]) rfl trivial (enters_of Tryz.func32 (by kernel_rfl) rfl)
        (items_stops _ w (some ⟨b, o + i, none⟩) (l.drop i) (c - i) W6.heap.size (by omega) (by omega) (hok.drop i) wL hIt) KpI.trans (KpI.put hLL.bl.size) (fun _ => rfl)
        (fun pre W => LsAt w W l.length (rowM l i (runC (l.drop i) (pre.map (·.1)))) bi i ∧ KeepsOthers wL W ∧ wL.heap.size ≤ W.heap.size)
        (fun c pre W => False)
        ?hI ?hIx ?h0
        (fun x a' W => ∃ Bx, wL.heap.size ≤ Bx ∧ Blk W Bx 45 #[.string (bN x.1.1), .int .i64 x.1.2] ∧ a' = { tmps := #[.slice (some ⟨b, o, none⟩) l.length c, undef, u2, u3, undef, u5, .pointer (some ⟨w.heap.size + 1, 0, none⟩), .pointer (some ⟨bi, 0, none⟩), .pointer (some ⟨Bx, 0, none⟩), undef, undef, undef, undef, .slice (some ⟨b, o, none⟩) l.length c, .int .i64 l.length, .bool false, .slice (some ⟨b, o, none⟩) l.length c, .int .i64 l.length, .int .i64 l.length, .bool false, u20, u21, u22, u23, u24, u25, u26, u27, u28, .slice (some ⟨b, o, none⟩) l.length c, .int .i64 l.length, .int .i64 ((l.length : Int) + 1), .slice (some ⟨w.heap.size, 0, none⟩) (l.length + 1) (l.length + 1), .slice (some ⟨b, o, none⟩) l.length c, .int .i64 l.length, .int .i64 ((l.length : Int) - 1), .int .i64 i, .bool true, v38, v39, .slice (some ⟨w.heap.size, 0, none⟩) (l.length + 1) (l.length + 1), .int .i64 i, .slice (some ⟨b, o, none⟩) l.length c, .int .i64 i, .pointer (some ⟨b, o + i, none⟩), .int .i64 v, .int .i64 sz, .int .i64 (sz + 1), .slice (some ⟨w.heap.size, 0, none⟩) (l.length + 1) (l.length + 1), .int .i64 i, .int .i64 ((i : Int) + 1), .pointer (some ⟨w.heap.size, i + 1, none⟩), .int .i64 c1, .int .i64 (sz + 1 + c1), .pointer (some ⟨w.heap.size, i, none⟩), .slice (some ⟨b, o, none⟩) l.length c, .int .i64 i, .slice (some ⟨b, o + i, none⟩) (l.length - i) (c - i), .func (.func 32) #[] #[.pointer (some ⟨W6.heap.size, 0, none⟩)], .agg #[.string (bN x.1.1), .int .i64 x.1.2], v60, v61, v62, v63, v64, v65, v66, v67, v68, v69, v70, v71, v72, v73, v74, v75, v76, v77, v78, v79, v80, undef, undef, undef, undef, undef, undef, undef, undef, undef, undef, undef, undef, undef, undef, undef, undef, undef, undef, undef, undef, undef, undef, undef, undef, undef, undef, undef, undef, undef, undef, undef, undef, undef, undef, undef, undef, undef, undef, undef, undef, undef, undef, undef, undef, undef, undef, undef, undef, undef, undef, undef, undef, undef, undef], defers := [] })
        ?hAx ?assign ?body ?done ?stop
      case hI =>
        rintro pre X Y row ⟨g1, g2, g3⟩ hg hrw
        exact ⟨g1.grown hg hbi6 (fun k e => by have := (owr hrw k e).1; omega), ko_grown g2 hg (fun r e => (owr hrw r e).1), Nat.le_trans g3 hg.size⟩
      case hIx => exact fun _ _ _ _ _ h => h.elim
      case h0 => exact ⟨hLL, KeepsOthers.refl _, Nat.le_refl _⟩
      case hAx =>
        rintro x a' u X Y row ⟨Bx, h1, h2, h3⟩ hg hrw
        refine ⟨Bx, h1, h2.grown hg (fun e => ?_), h3⟩
        obtain ⟨_, o', ho, hc'⟩ := owr hrw _ e.symm
        rw [show X.heap[Bx]? = _ from h2] at ho
        cases ho; cases hc'
      case assign =>
        rintro lp pre x W K' ⟨g1, g2, g3⟩ hK'
        gi_wp2
        refine hK' _ _ ((KeepsOthers.alloc _ _).from _) (KpI.below ((Below.refl _ _).alloc (Nat.le_refl _) _) g1.bl.size) ⟨g1.on ((Below.refl _ _).alloc (Nat.le_refl _) _), g2.trans (KeepsOthers.alloc _ _), by simp; omega⟩ ⟨W.heap.size, g3, Blk.new _ _ _, rfl⟩
      case body =>
        rintro lp pre ⟨⟨s, m⟩, hx⟩ a' W hlp ⟨g1, g2, g3⟩ ⟨Bx, hBx, kX, rfl⟩ _
        simp only at kX
        have hio := items_ok (hok.drop i) (by omega) (by omega) hx
        obtain ⟨y1, y2, y3, y4⟩ := hio
        simp only at y1 y2 y3 y4
        rw [hdl] at y2
        obtain ⟨cm, hcm⟩ : ∃ cm, Hid (runC (l.drop i) (pre.map (·.1)) = cm) := ⟨_, Lib.hid rfl⟩
        have hcmb : 0 ≤ cm ∧ cm ≤ 3000 := by
          have := runC_bd (l.drop i) (pre.map (·.1))
          rw [hcm.out, hdl] at this; omega
        obtain ⟨cx, hcx⟩ : ∃ cx, Hid ((costs (l.drop (i + 1))).getD (m - 1) 0 = cx) := ⟨_, Lib.hid rfl⟩
        have hcxb : 0 ≤ cx ∧ cx ≤ 3000 := by
          have := costs_bd (l.drop (i + 1)) (m - 1)
          rw [hcx.out, List.length_drop] at this; omega
        have hnx : Hid (runC (l.drop i) ((pre ++ [(⟨(s, m), hx⟩ : ItA (l.drop i))]).map (·.1)) = min cm ((s.length : Int) + 1 + cx)) := by
          rw [Hid, List.map_append, List.map_cons, List.map_nil, runC_next, hcm.out]
          unfold stepC
          rw [List.tail_drop, hcx.out]
        rw [hcm.out] at g1
        have hq0 := g1.rowc (k := i) (by rw [rowM_len hil]; omega)
        rw [rowM_here] at hq0
        have hrl : i + m < (rowM l i cm).length := by rw [rowM_len hil]; omega
        have hq1 := g1.rowc hrl
        rw [rowM_next l hil cm m y1 hrl, hcx.out] at hq1
        have hzs : (bN s).size = s.length := rfl
        have hS2 : W.drew.cell? ⟨w.heap.size + 1, 0, none⟩ = some (.slice (some ⟨w.heap.size, 0, none⟩) (l.length + 1) (l.length + 1)) ∧ W.drew.cell? ⟨bi, 0, none⟩ = some (.int .i64 i) ∧ W.drew.cell? ⟨Bx, 0, none⟩ = some (.string (bN s)) ∧ W.drew.cell? ⟨Bx, 1, none⟩ = some (.int .i64 m) ∧ W.drew.cell? ⟨w.heap.size, i, none⟩ = some (.int .i64 cm) ∧ W.drew.cell? ⟨w.heap.size, i + m, none⟩ = some (.int .i64 cx) :=
          ⟨g1.bx.cell 0 _ rfl, g1.ix.cell 0 _ rfl, kX.cell 0 _ rfl, kX.cell 1 _ rfl, hq0, hq1⟩
        have j1 : IntKind.i64.wrap ((i : Int) + (m : Int)) = (i : Int) + (m : Int) := by unfold IntKind.wrap; simp [IntKind.signed, IntKind.bits]; omega
        have j2 : IntKind.i64.wrap ((s.length : Int) + 1) = (s.length : Int) + 1 := by unfold IntKind.wrap; simp [IntKind.signed, IntKind.bits]; omega
        have j3 : IntKind.i64.wrap ((s.length : Int) + 1 + cx) = (s.length : Int) + 1 + cx := by unfold IntKind.wrap; simp [IntKind.signed, IntKind.bits]; omega
        have j4 : 0 ≤ (i : Int) + (m : Int) := by omega
        have j5 : (i : Int) + (m : Int) < (l.length : Int) + 1 := by omega
        have j6 : ((i : Int) + (m : Int)).toNat = i + m := by omega
        clear hq0 hq1
        refine wpIn_block ?_
        refine region_round_J (fun _ => True) (fun W' => W'.cell? ⟨w.heap.size + 1, 0, none⟩ = some (.slice (some ⟨w.heap.size, 0, none⟩) (l.length + 1) (l.length + 1)) ∧ W'.cell? ⟨bi, 0, none⟩ = some (.int .i64 i) ∧ W'.cell? ⟨Bx, 0, none⟩ = some (.string (bN s)) ∧ W'.cell? ⟨Bx, 1, none⟩ = some (.int .i64 m) ∧ W'.cell? ⟨w.heap.size, i, none⟩ = some (.int .i64 cm) ∧ W'.cell? ⟨w.heap.size, i + m, none⟩ = some (.int .i64 cx)) (fun i => i != 20) (by kernel_rfl) (by kernel_rfl) ?_
        refine wpAnyJ_take2 0 rfl (by kernel_rfl) (by kernel_rfl) (by kernel_rfl) (by kernel_rfl) (fun _ _ _ h => h) (by rfl) trivial hS2 (fun w' hSw => (by obtain ⟨-, z0, z1, z2, z3, z4, z5⟩ := hSw; go_simp; try (with_reducible rfl))) ?_
        try simp only [Act.put, List.getElem_toArray, List.getElem_cons_succ, List.getElem_cons_zero, List.setIfInBounds_toArray, List.set_cons_zero, List.set_cons_succ]
        refine wpAnyJ_take2 1 rfl (by kernel_rfl) (by kernel_rfl) (by kernel_rfl) (by kernel_rfl) (fun _ _ _ h => h) (by rfl) trivial hS2 (fun w' hSw => (by obtain ⟨-, z0, z1, z2, z3, z4, z5⟩ := hSw; go_simp; try (with_reducible rfl))) ?_
        try simp only [Act.put, List.getElem_toArray, List.getElem_cons_succ, List.getElem_cons_zero, List.setIfInBounds_toArray, List.set_cons_zero, List.set_cons_succ]
        refine wpAnyJ_take2 2 rfl (by kernel_rfl) (by kernel_rfl) (by kernel_rfl) (by kernel_rfl) (fun _ _ _ h => h) (by rfl) trivial hS2 (fun w' hSw => (by obtain ⟨-, z0, z1, z2, z3, z4, z5⟩ := hSw; go_simp; try (with_reducible rfl))) ?_
        try simp only [Act.put, List.getElem_toArray, List.getElem_cons_succ, List.getElem_cons_zero, List.setIfInBounds_toArray, List.set_cons_zero, List.set_cons_succ]
        refine wpAnyJ_take2 3 rfl (by kernel_rfl) (by kernel_rfl) (by kernel_rfl) (by kernel_rfl) (fun _ _ _ h => h) (by rfl) trivial hS2 (fun w' hSw => (by obtain ⟨-, z0, z1, z2, z3, z4, z5⟩ := hSw; go_simp; try (with_reducible rfl))) ?_
        try simp only [Act.put, List.getElem_toArray, List.getElem_cons_succ, List.getElem_cons_zero, List.setIfInBounds_toArray, List.set_cons_zero, List.set_cons_succ]
        refine wpAnyJ_take2 4 rfl (by kernel_rfl) (by kernel_rfl) (by kernel_rfl) (by kernel_rfl) (fun _ _ _ h => h) (by rfl) trivial hS2 (fun w' hSw => (by obtain ⟨-, z0, z1, z2, z3, z4, z5⟩ := hSw; go_simp; try (with_reducible rfl))) ?_
        try simp only [Act.put, List.getElem_toArray, List.getElem_cons_succ, List.getElem_cons_zero, List.setIfInBounds_toArray, List.set_cons_zero, List.set_cons_succ]
        refine wpAnyJ_take2 5 rfl (by kernel_rfl) (by kernel_rfl) (by kernel_rfl) (by kernel_rfl) (fun _ _ _ h => h) (by rfl) trivial hS2 (fun w' hSw => (by obtain ⟨-, z0, z1, z2, z3, z4, z5⟩ := hSw; go_simp; try (with_reducible rfl))) ?_
        try simp only [Act.put, List.getElem_toArray, List.getElem_cons_succ, List.getElem_cons_zero, List.setIfInBounds_toArray, List.set_cons_zero, List.set_cons_succ]
        refine wpAnyJ_take2 6 rfl (by kernel_rfl) (by kernel_rfl) (by kernel_rfl) (by kernel_rfl) (fun _ _ _ h => h) (by rfl) trivial hS2 (fun w' hSw => (by obtain ⟨-, z0, z1, z2, z3, z4, z5⟩ := hSw; go_simp; try (with_reducible rfl))) ?_
        try simp only [Act.put, List.getElem_toArray, List.getElem_cons_succ, List.getElem_cons_zero, List.setIfInBounds_toArray, List.set_cons_zero, List.set_cons_succ]
        refine wpAnyJ_take2 7 rfl (by kernel_rfl) (by kernel_rfl) (by kernel_rfl) (by kernel_rfl) (fun _ _ _ h => h) (by rfl) trivial hS2 (fun w' hSw => (by obtain ⟨-, z0, z1, z2, z3, z4, z5⟩ := hSw; go_simp; try (with_reducible rfl))) ?_
        try simp only [Act.put, List.getElem_toArray, List.getElem_cons_succ, List.getElem_cons_zero, List.setIfInBounds_toArray, List.set_cons_zero, List.set_cons_succ]
        refine wpAnyJ_take2 8 rfl (by kernel_rfl) (by kernel_rfl) (by kernel_rfl) (by kernel_rfl) (fun _ _ _ h => h) (by rfl) trivial hS2 (fun w' hSw => (by obtain ⟨-, z0, z1, z2, z3, z4, z5⟩ := hSw; go_simp; try (with_reducible rfl))) ?_
        try simp only [Act.put, List.getElem_toArray, List.getElem_cons_succ, List.getElem_cons_zero, List.setIfInBounds_toArray, List.set_cons_zero, List.set_cons_succ]
        refine wpAnyJ_take2 9 rfl (by kernel_rfl) (by kernel_rfl) (by kernel_rfl) (by kernel_rfl) (fun _ _ _ h => h) (by rfl) trivial hS2 (fun w' hSw => (by obtain ⟨-, z0, z1, z2, z3, z4, z5⟩ := hSw; go_simp; try (with_reducible rfl))) ?_
        try simp only [Act.put, List.getElem_toArray, List.getElem_cons_succ, List.getElem_cons_zero, List.setIfInBounds_toArray, List.set_cons_zero, List.set_cons_succ]
        refine wpAnyJ_take2 10 rfl (by kernel_rfl) (by kernel_rfl) (by kernel_rfl) (by kernel_rfl) (fun _ _ _ h => h) (by rfl) trivial hS2 (fun w' hSw => (by obtain ⟨-, z0, z1, z2, z3, z4, z5⟩ := hSw; go_simp; try (with_reducible rfl))) ?_
        try simp only [Act.put, List.getElem_toArray, List.getElem_cons_succ, List.getElem_cons_zero, List.setIfInBounds_toArray, List.set_cons_zero, List.set_cons_succ]
        refine wpAnyJ_take2 11 rfl (by kernel_rfl) (by kernel_rfl) (by kernel_rfl) (by kernel_rfl) (fun _ _ _ h => h) (by rfl) trivial hS2 (fun w' hSw => (by obtain ⟨-, z0, z1, z2, z3, z4, z5⟩ := hSw; go_simp; try (with_reducible rfl))) ?_
        try simp only [Act.put, List.getElem_toArray, List.getElem_cons_succ, List.getElem_cons_zero, List.setIfInBounds_toArray, List.set_cons_zero, List.set_cons_succ]
        refine wpAnyJ_take2 12 rfl (by kernel_rfl) (by kernel_rfl) (by kernel_rfl) (by kernel_rfl) (fun _ _ _ h => h) (by rfl) trivial hS2 (fun w' hSw => (by obtain ⟨-, z0, z1, z2, z3, z4, z5⟩ := hSw; go_simp; try (with_reducible rfl))) ?_
        try simp only [Act.put, List.getElem_toArray, List.getElem_cons_succ, List.getElem_cons_zero, List.setIfInBounds_toArray, List.set_cons_zero, List.set_cons_succ]
        refine wpAnyJ_take2 13 rfl (by kernel_rfl) (by kernel_rfl) (by kernel_rfl) (by kernel_rfl) (fun _ _ _ h => h) (by rfl) trivial hS2 (fun w' hSw => (by obtain ⟨-, z0, z1, z2, z3, z4, z5⟩ := hSw; go_simp; try (with_reducible rfl))) ?_
        try simp only [Act.put, List.getElem_toArray, List.getElem_cons_succ, List.getElem_cons_zero, List.setIfInBounds_toArray, List.set_cons_zero, List.set_cons_succ]
        refine wpAnyJ_take2 14 rfl (by kernel_rfl) (by kernel_rfl) (by kernel_rfl) (by kernel_rfl) (fun _ _ _ h => h) (by rfl) trivial hS2 (fun w' hSw => (by obtain ⟨-, z0, z1, z2, z3, z4, z5⟩ := hSw; go_simp; try (with_reducible rfl))) ?_
        try simp only [Act.put, List.getElem_toArray, List.getElem_cons_succ, List.getElem_cons_zero, List.setIfInBounds_toArray, List.set_cons_zero, List.set_cons_succ]
        refine wpAnyJ_take2 15 rfl (by kernel_rfl) (by kernel_rfl) (by kernel_rfl) (by kernel_rfl) (fun _ _ _ h => h) (by rfl) trivial hS2 (fun w' hSw => (by obtain ⟨-, z0, z1, z2, z3, z4, z5⟩ := hSw; go_simp; try (with_reducible rfl))) ?_
        try simp only [Act.put, List.getElem_toArray, List.getElem_cons_succ, List.getElem_cons_zero, List.setIfInBounds_toArray, List.set_cons_zero, List.set_cons_succ]
        refine wpAnyJ_take2 16 rfl (by kernel_rfl) (by kernel_rfl) (by kernel_rfl) (by kernel_rfl) (fun _ _ _ h => h) (by rfl) trivial hS2 (fun w' hSw => (by obtain ⟨-, z0, z1, z2, z3, z4, z5⟩ := hSw; go_simp; try (with_reducible rfl))) ?_
        try simp only [Act.put, List.getElem_toArray, List.getElem_cons_succ, List.getElem_cons_zero, List.setIfInBounds_toArray, List.set_cons_zero, List.set_cons_succ]
        refine wpAnyJ_take2 17 rfl (by kernel_rfl) (by kernel_rfl) (by kernel_rfl) (by kernel_rfl) (fun _ _ _ h => h) (by rfl) trivial hS2 (fun w' hSw => (by obtain ⟨-, z0, z1, z2, z3, z4, z5⟩ := hSw; go_simp; try (with_reducible rfl))) ?_
        try simp only [Act.put, List.getElem_toArray, List.getElem_cons_succ, List.getElem_cons_zero, List.setIfInBounds_toArray, List.set_cons_zero, List.set_cons_succ]
        refine wpAnyJ_take2 18 rfl (by kernel_rfl) (by kernel_rfl) (by kernel_rfl) (by kernel_rfl) (fun _ _ _ h => h) (by rfl) trivial hS2 (fun w' hSw => (by obtain ⟨-, z0, z1, z2, z3, z4, z5⟩ := hSw; go_simp; try (with_reducible rfl))) ?_
        try simp only [Act.put, List.getElem_toArray, List.getElem_cons_succ, List.getElem_cons_zero, List.setIfInBounds_toArray, List.set_cons_zero, List.set_cons_succ]
        refine wpAnyJ_ready [19] (by kernel_rfl) (by simp) (NextJ.cons rfl (fun K hK => ?_) NextJ.nil)
        go_simp
        refine hK.out _ _ trivial (fun _ => hS2) ?_
        clear hK K
        try simp only [Act.put, List.getElem_toArray, List.getElem_cons_succ, List.getElem_cons_zero, List.setIfInBounds_toArray, List.set_cons_zero, List.set_cons_succ]
        have ql := g1.row.lt
        have qf := g1.row.frozen i
        refine wpAnyJ_ready [20] (by kernel_rfl) (by simp) (NextJ.cons rfl (fun K hK => ?_) NextJ.nil)
        go_simp
        refine hK.out _ _ trivial (fun h => absurd h (by decide)) ?_
        clear hK K
        refine wpAnyJ_done (by kernel_rfl) (onlyN_in ?_) _
        have hBd : Below W.heap.size W W.drew := (Below.refl _ _).drew
        have gd := g1.on hBd
        have gp := gd.put i (min cm ((s.length : Int) + 1 + cx))
        rw [rowM_set, ← hnx.out] at gp
        refine ⟨(kfb hBd).trans ((KeepsOthers.setCell _ _ _).from _), (KpI.below hBd g1.bl.size).trans (kpi_set gd.row (Nat.le_refl _) _ _), ?_, (g2.trans (ko_below hBd)).trans (KeepsOthers.setCell _ _ _), by simp; exact g3⟩
        rw [← hnx.out]
        exact gp
      case done =>
        rintro D ys W hD hS ⟨g1, g2, g3⟩ hK9
        have hrun : runC (l.drop i) (ys.map (·.1)) = (costs (l.drop i)).headD 0 := by rw [hS]; exact runC_all (by omega)
        rw [hrun, rowM_done l hil] at g1
        have hM9 : MarksAt w.heap.size (D :: Ds) W := hML.cons g2 hD hLL.bl.size hK9
        have qi := g1.ix.cell 0 _ rfl
        have kN := Blk.new W 3 #[.int .i64 i]
        have qn := kN.cell 0 _ rfl
        have fn := kN.frozen 0
        have ln := kN.lt
        have hBN : Below W.heap.size W (W.alloc (.cells #[.int .i64 i] 3)) := (Below.refl _ _).alloc (Nat.le_refl _) _
        gi_wp2
        refine ⟨⟨_, _, _, _, _, _, _, _, _, _, _, _, _, _, _, _, _, _, _, _, _, _, _, _, _, _, _, _, _, _, _, _, _, _, _, _, _, _, _, _, _, _, _, _, _, _, i, W.heap.size, D :: Ds, by omega, ⟨g1.bl.alloc g1.bl.size _, g1.row.alloc _, g1.bx.alloc _, Blk.new _ _ _, ?_⟩, hM9.keep (KeepsOthers.alloc _ _), rfl⟩, ?_⟩
        · have := g1.ix.lt; have := g1.lt; omega
        · show (ib (.pointer (some ⟨W.heap.size, 0, none⟩)) _ + 1).toNat < (ib (.pointer (some ⟨bi, 0, none⟩)) _ + 1).toNat
          rw [hmu.out, ib_blk (Blk.new _ _ _)]
          omega
      case stop => exact fun _ _ _ _ _ _ h _ => h.elim
end Go.Proofs.YtohcmfobnkaaiaaGreatDoor
