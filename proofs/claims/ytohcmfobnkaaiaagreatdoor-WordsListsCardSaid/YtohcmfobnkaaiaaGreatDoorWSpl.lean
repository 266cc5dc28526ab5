/- words: Split. -/
import Derived.Test.YtohcmfobnkaaiaaGreatDoorWPcs
set_option linter.unusedSimpArgs false
set_option linter.unusedVariables false
namespace Go.Proofs.YtohcmfobnkaaiaaGreatDoor
open Go Go.RowKit Go.Shelf Tor
attribute [local go_sem] Oper.semAt_some

/-- a list of fields that is returned, with an error -/
def FldsRet (w : World) (l : List Fld) (n : Int) (e : Ending) (w' : World) : Prop := ∃ v, e = .returned (.tuple #[v, .int .i64 n]) ∧ Tor.Own 2 fenc w' w.heap.size 78 v l ∧ Below w.heap.size w w'

theorem split_results {tmps : Array Value} {w : World} {g1 g2 : Nat} {v1 : Value} {e : Int} (hp : tmps.getD 2 undef = .pointer (some ⟨g1, 0, none⟩)) (hq : tmps.getD 3 undef = .pointer (some ⟨g2, 0, none⟩))
    (h1 : Blk w g1 32 #[v1]) (h2 : Blk w g2 24 #[.int .i64 e]) : (results Tryz.f11 tmps).run Tryz.prog w = .ok (.tuple #[v1, .int .i64 e]) w := by
  have c1 := h1.cell 0 v1 rfl
  have c2 := h2.cell 0 _ rfl
  have hp' : tmps[2]?.getD undef = .pointer (some ⟨g1, 0, none⟩) := by simpa using hp
  have hq' : tmps[3]?.getD undef = .pointer (some ⟨g2, 0, none⟩) := by simpa using hq
  have hR : Tryz.f11.results = #[.cell 2 32, .cell 3 24] := rfl
  simp only [results, hR]
  simp [Sem.run_bind, Result.andThen, hp', hq']
  go_simp
theorem _root_.Tor.Own.grownW {α : Type} {sz : Nat} {enc : α → List Value} {w w' : World} {base : Nat} {e : TypeId} {v : Value} {l : List α} (h : Tor.Own sz enc w base e v l) {row : Option Nat} (hg : w.grownBy w' row)
    (hr : ∀ r, row = some r → r < base ∨ ∃ o : Obj, w.heap[r]? = some o ∧ o.isCells = false) : Tor.Own sz enc w' base e v l := by
  obtain ⟨h1, h2⟩ := h
  refine ⟨h1, ?_⟩
  rcases h2 with h2 | ⟨g, cap, cur, hv, hg0, hh, r⟩
  · exact Or.inl h2
  · refine Or.inr ⟨g, cap, cur, hv, hg0, ?_, r⟩
    rw [hg.block g (Array.getElem?_eq_some_iff.1 hh).1 (fun e => ?_)]
    · exact hh
    · rcases hr g e.symm with h3 | ⟨o, ho, hc⟩
      · omega
      · rw [hh] at ho; cases ho; cases hc
theorem kf_below {B : Nat} {W W' : World} (h : Below W.heap.size W W') : KeepsFrom B W W' := ⟨h.size, fun k o _ hk _ => (h.block k (Array.getElem?_eq_some_iff.1 hk).1).trans hk⟩
/-- a field is appended, and the variable is stored -/
theorem appendedS {W w1 : World} {H HH bo : Nat} {v v' : Value} {xs ys : List Fld} {tmp : Obj} (B : Nat) (hv : Blk W bo 32 #[v]) (ho : Tor.Own 2 fenc W HH 78 v xs) (hH : H ≤ bo) (hHH : H ≤ HH) (hsz : HH ≤ W.heap.size)
    (ho' : Tor.Own 2 fenc w1 HH 78 v' ys) (hg : (W.alloc tmp).grownBy w1 v.ownBlock) :
    Blk w1 bo 32 #[v] ∧ Blk (w1.setCell ⟨bo, 0, none⟩ v') bo 32 #[v'] ∧ Tor.Own 2 fenc (w1.setCell ⟨bo, 0, none⟩ v') HH 78 v' ys ∧ KeepsFrom B W (w1.setCell ⟨bo, 0, none⟩ v') ∧ KpP H W (w1.setCell ⟨bo, 0, none⟩ v') := by
  have hv1 : Blk w1 bo 32 #[v] := (hv.alloc tmp).grown hg ((ho.alloc tmp).ne_block (hv.alloc tmp) (by decide))
  have hw : w1.grownBy (w1.setCell ⟨bo, 0, none⟩ v') (some bo) := grownBy_setCell' w1 bo v'
  have hbl : Below HH W w1 := (ho.alloc tmp).grown ((Below.refl HH W).alloc hsz tmp) hg (by simp; omega)
  have cells : ∀ (j : Nat) (o : Obj), v.ownBlock = some j → (W.alloc tmp).heap[j]? = some o → o.isCells = true := by
    intro j o hj hob
    obtain ⟨_, h2⟩ := ho.alloc tmp
    rcases h2 with ⟨rfl, _⟩ | ⟨g, cap, cur, rfl, _, hh, _⟩
    · simp [Value.ownBlock] at hj
    · simp only [Value.ownBlock, Option.some.injEq] at hj
      subst hj
      rw [hh] at hob; cases hob; rfl
  refine ⟨hv1, hv1.set_ 0 v', ?_, ?_, ?_, ?_⟩
  · obtain ⟨h1, h2⟩ := ho'
    refine ⟨h1, ?_⟩
    rcases h2 with h2 | ⟨g, cap, cur, he, hg0, hh, r⟩
    · exact Or.inl h2
    · refine Or.inr ⟨g, cap, cur, he, hg0, ?_, r⟩
      rw [hw.block g (Array.getElem?_eq_some_iff.1 hh).1 (fun e => ?_)]
      · exact hh
      · cases e
        rw [show w1.heap[bo]? = _ from hv1] at hh
        simp only [Option.some.injEq, Obj.cells.injEq] at hh
        exact absurd hh.2.1 (by decide)
  · refine KeepsFrom.trans (KeepsFrom.trans ((KeepsOthers.alloc W tmp).from B) ((KeepsOthers.of_grownBy hg cells).from B)) ((KeepsOthers.setCell w1 ⟨bo, 0, none⟩ v').from B)
  · exact (hbl.mono hHH).setCell hH v'
  · intro b vs T h1 h2 hb
    have hb1 : Blk w1 b T vs := (hb.alloc tmp).grown hg ((ho.alloc tmp).ne_block (hb.alloc tmp) h1)
    refine hb1.far (fun e => ?_) v'
    simp only at e
    subst e
    have := (show w1.heap[b]? = _ from hb1).symm.trans hv1
    simp only [Option.some.injEq, Obj.cells.injEq] at this
    exact h2 this.2.1
theorem unq_len (R : List UInt8) : (unqP R).1.length ≤ 2 * R.length := by
  have hm : (midL R).length ≤ R.length := by unfold midL; rw [List.length_take, List.length_drop]; omega
  have hr := repA_len (midL R) [34, 34] [34] (by simp)
  unfold unqP
  split
  · simp
  · split
    · simp only [List.length_cons, List.length_nil] at hr; simp only; omega
    · simp
theorem hasPrefix_q (R : List UInt8) : Lib.hasPrefix R [34] = decide (R.head? = some 34) := by
  cases R with
  | nil => rfl
  | cons c r =>
    by_cases h : c = 34
    · subst h; rfl
    · have h2 : ((34 : UInt8) == c) = false := beq_eq_false_iff_ne.2 (fun e => h e.symm)
      simp [Lib.hasPrefix, List.isPrefixOf, h2, h]
/-- the fields of the pieces that have come -/
def fldL {L : List UInt8} (pre : List (PcA L)) : List Fld := (pre.map fun x => fieldP x.1).filterMap id
def badL {L : List UInt8} (pre : List (PcA L)) : Bool := (pre.map fun x => fieldP x.1).any (·.isNone)
theorem fldL_hit {L : List UInt8} (pre : List (PcA L)) {x : PcA L} {f : Fld} (h : fieldP x.1 = some f) : fldL (pre ++ [x]) = fldL pre ++ [f] := by simp [fldL, h]
theorem badL_hit {L : List UInt8} (pre : List (PcA L)) {x : PcA L} {f : Fld} (h : fieldP x.1 = some f) : badL (pre ++ [x]) = badL pre := by simp [badL, h]
theorem badL_miss {L : List UInt8} (pre : List (PcA L)) {x : PcA L} (h : fieldP x.1 = none) : badL (pre ++ [x]) = true := by simp [badL, h]

theorem fldL_all {L : List UInt8} {ys : List (PcA L)} (h : ys.map (·.1) = pcsG L) : fldL ys = ((pcsG L).map fieldP).filterMap id ∧ badL ys = ((pcsG L).map fieldP).any (·.isNone) := by
  have e : (ys.map fun x => fieldP x.1) = (pcsG L).map fieldP := by rw [← h, List.map_map]; rfl
  exact ⟨by unfold fldL; rw [e], by unfold badL; rw [e]⟩
theorem filterMap_len : ∀ (l : List (Option Fld)), l.any (·.isNone) = false → (l.filterMap id).length = l.length
  | [], _ => rfl
  | none :: r, h => by simp at h
  | some x :: r, h => by
    have ih := filterMap_len r (by simpa using h)
    simp [ih]

set_option maxRecDepth 100000 in
set_option maxHeartbeats 8000000 in
theorem wsplit_any (L : List UInt8) (w : World) (hs : L.length ≤ 1000000) (h : WdAt w) : Calls Tryz.prog 11 #[.string (bN L)] w (FldsRet w (splitP L).1 (splitP L).2) := by
  have hz : (bN L).size = L.length := rfl
  obtain ⟨w0, hw0⟩ : ∃ w0, Hid (w0 = (w.alloc (.cells #[.slice none 0 0] 32)).alloc (.cells #[.int .i64 0] 24)) := ⟨_, Lib.hid rfl⟩
  have k2 : Blk w0 w.heap.size 32 #[.slice none 0 0] := by rw [hw0.out]; exact (Blk.new w _ _).alloc _
  have k3 : Blk w0 (w.heap.size + 1) 24 #[.int .i64 0] := by rw [hw0.out]; have := Blk.new (w.alloc (.cells #[.slice none 0 0] 32)) 24 #[.int .i64 0]; rw [World.size_alloc] at this; exact this
  have hB0 : Below w.heap.size w w0 := by rw [hw0.out]; (repeat' first | exact Below.refl _ _ | apply Below.drew | (refine Below.setCells ?_ _ _ ?_) | (refine Below.setCell ?_ ?_ _) | (refine Below.alloc ?_ ?_ _) | (simp; done) | (simp; omega))
  have hs0 : w0.heap.size = w.heap.size + 2 := by rw [hw0.out]; simp
  have early : ∀ (n : Int), FldsRet w [] n (.returned (.tuple #[.slice none 0 0, .int .i64 n])) ((w.alloc (.cells #[.slice none 0 0] 32)).alloc (.cells #[.int .i64 n] 24)) := fun n =>
    ⟨_, rfl, Tor.Own.nil _ _ _, by (repeat' first | exact Below.refl _ _ | apply Below.drew | (refine Below.setCells ?_ _ _ ?_) | (refine Below.setCell ?_ ?_ _) | (refine Below.alloc ?_ ?_ _) | (simp; done) | (simp; omega))⟩
  have k3e : ∀ n : Int, Blk ((w.alloc (.cells #[.slice none 0 0] 32)).alloc (.cells #[.int .i64 n] 24)) (w.heap.size + 1) 24 #[.int .i64 n] := fun n => by
    have := Blk.new (w.alloc (.cells #[.slice none 0 0] 32)) 24 #[.int .i64 n]; rw [World.size_alloc] at this; exact this
  by_cases h4 : 4096 < L.length
  · have hP : Hid (splitP L = ([], 3)) := by rw [Hid]; unfold splitP; rw [if_pos h4]
    rw [hP.out]
    have a1 : (4096 : Int) < L.length := by omega
    clear h4 hP
    refine (callsIn_wide (n := 9)).1 ?_
    refine callsIn_of_wp_marks Tryz.func11 rfl trivial ?_ rfl
    simp only [Tryz.ntmps11, List.size_toArray, List.length_cons, List.length_nil, Nat.reduceAdd, Nat.reduceSub, Array.replicate_succ, Array.replicate_zero, List.push_toArray, List.append_toArray, List.nil_append, List.cons_append]
    gi_wp2
    exact ⟨_, split_results rfl rfl ((Blk.new w _ _).alloc _) (k3e 3), early 3⟩
  have a1 : ¬ (4096 : Int) < L.length := by omega
  by_cases h0 : L = []
  · subst h0
    have tL : (bN []).toList = [] := Lib.toList_data _
    rw [show splitP [] = ([], 0) from rfl]
    refine (callsIn_wide (n := 9)).1 ?_
    refine callsIn_of_wp_marks Tryz.func11 rfl trivial ?_ rfl
    simp only [Tryz.ntmps11, List.size_toArray, List.length_cons, List.length_nil, Nat.reduceAdd, Nat.reduceSub, Array.replicate_succ, Array.replicate_zero, List.push_toArray, List.append_toArray, List.nil_append, List.cons_append]
    gi_wp2
    exact ⟨_, split_results rfl rfl ((Blk.new w _ _).alloc _) (k3e 0), early 0⟩
  have h0' : (L == []) = false := beq_eq_false_iff_ne.2 h0
  have tL : (bN L).toList = L := Lib.toList_data _
  have SB := Lib.hid (fun (pre : List (PcA L)) (hp : pre.map (·.1) <+: pcsG L) (hb : badL pre = true) => (split_bad h4 h0 hp (by unfold badL at hb; simpa using hb) : splitP L = ([], 6)))
  have SO := Lib.hid (fun (hb : ((pcsG L).map fieldP).any (·.isNone) = false) => split_ok h4 h0 hb)
  clear h4 h0 early k3e
  obtain ⟨wb, hwb⟩ : ∃ wb, Hid (w0.alloc (.cells #[.slice none 0 0] 32) = wb) := ⟨_, Lib.hid rfl⟩
  have k4 : Blk wb (w.heap.size + 2) 32 #[.slice none 0 0] := by rw [← hwb.out, ← hs0]; exact Blk.new _ _ _
  have hBb : Below w.heap.size w wb := by rw [← hwb.out]; exact hB0.alloc (by omega) _
  have hsb : wb.heap.size = w.heap.size + 3 := by rw [← hwb.out]; simp; omega
  have kb2 : Blk wb w.heap.size 32 #[.slice none 0 0] := by rw [← hwb.out]; exact k2.alloc _
  have kb3 : Blk wb (w.heap.size + 1) 24 #[.int .i64 0] := by rw [← hwb.out]; exact k3.alloc _
  clear k2 k3
  refine (callsIn_wide (n := 9)).1 ?_
  refine callsIn_of_wp_marks Tryz.func11 rfl trivial ?_ rfl
  simp only [Tryz.ntmps11, List.size_toArray, List.length_cons, List.length_nil, Nat.reduceAdd, Nat.reduceSub, Array.replicate_succ, Array.replicate_zero, List.push_toArray, List.append_toArray, List.nil_append, List.cons_append]
  gi_wp2
  rw [← hw0.out, hwb.out]
  gi_wp2_with (first
    | (refine ⟨trivial, ?_⟩
       gi_at_call 28
       refine (callsIn_wide.2 (pieces_any L _)).mono ?_
       rintro e1 wL ⟨rfl, p1, p2, p3, hB1⟩)
    | fail)
  rw [hsb] at p1 p2 p3
  have hBL : Below w.heap.size w wL := hBb.trans (hB1.mono (by omega))
  have hsL := hB1.size
  have m2 := kb2.below' hB1
  have m3 := kb3.below' hB1
  have m4 : Blk wL (w.heap.size + 1 + 1) 32 #[.slice none 0 0] := k4.below' hB1
  have hPL : PcAt wL L false (w.heap.size + 3 + 1) (w.heap.size + 3) (w.heap.size + 3 + 1 + 1) := ⟨p1, p2, p3⟩
  have hz5 := p3.lt
  clear k4 kb2 kb3 p1 p2 p3 hwb hw0 hB1 hBb hs0 hB0 tL h0'
  refine rangeFunc_w (some (w.heap.size + 3 + 1)) (fun r e => by cases e; omega) rfl (by omega) (gf := 44) (lb := #[.pointer (some ⟨w.heap.size + 3, 0, none⟩), .pointer (some ⟨w.heap.size + 3 + 1 + 1, 0, none⟩)]) rfl trivial (enters_of Tryz.func44 (by kernel_rfl) rfl)
    (pieces_stops _ (w.heap.size + 2) _ _ _ L hs wL hPL) KpP.trans (KpP.put (by omega)) (fun _ => rfl)
    (fun pre W => (∃ v, Blk W (w.heap.size + 1 + 1) 32 #[v] ∧ Tor.Own 2 fenc W wL.heap.size 78 v (fldL pre)) ∧ badL pre = false ∧ Below (w.heap.size + 2) wL W)
    (fun c pre W => c = .ret ∧ badL pre = true ∧ Blk W w.heap.size 32 #[.slice none 0 0] ∧ Blk W (w.heap.size + 1) 24 #[.int .i64 6] ∧ Below w.heap.size w W ∧ wL.heap.size ≤ W.heap.size)
    ?hI ?hIx ?h0
    (fun x a' W => a' = { tmps := #[.string (bN L), undef, .pointer (some ⟨w.heap.size, 0, none⟩), .pointer (some ⟨w.heap.size + 1, 0, none⟩), .pointer (some ⟨w.heap.size + 1 + 1, 0, none⟩), .string (bN x.1), undef, undef, undef, .string (bN L), .int .i64 L.length, .bool false, .string (bN L), .bool false, .string (bN L), .func (.func 44) #[] #[.pointer (some ⟨w.heap.size + 3, 0, none⟩), .pointer (some ⟨w.heap.size + 3 + 1 + 1, 0, none⟩)], .string (bN x.1), undef, undef, undef, undef, undef, undef, undef, undef, undef, undef, undef, undef, undef, undef, undef, undef, undef, undef, undef, undef, undef, undef, undef, undef], defers := [] })
    ?hAx ?assign ?body ?done ?stop
  case hI =>
    rintro pre X Y row ⟨⟨v, hv, ho⟩, hbad, hB⟩ hg hrw
    refine ⟨⟨v, hv.grown hg (fun e => ?_), ho.grownW hg (fun r e => ?_)⟩, hbad, hB.grown hg (by have := hB.size; omega) (fun k e => ?_)⟩
    · rcases hrw _ e.symm with h | h
      · have h := Option.some.inj h; omega
      · have := h.1; omega
    · rcases hrw _ e with h | h
      · have h := Option.some.inj h; exact .inl (by omega)
      · exact .inr h.2
    · rcases hrw k e with h | h
      · have h := Option.some.inj h; omega
      · have := h.1; omega
  case hIx =>
    rintro c' pre X Y row ⟨e, h1, h2, h3, h4, h5⟩ hg hrw
    refine ⟨e, h1, h2.grown hg (fun e => ?_), h3.grown hg (fun e => ?_), h4.grown hg (by have := h4.size; omega) (fun k e => ?_), Nat.le_trans h5 hg.size⟩
    · rcases hrw _ e.symm with h | h
      · have h := Option.some.inj h; omega
      · have := h.1; omega
    · rcases hrw _ e.symm with h | h
      · have h := Option.some.inj h; omega
      · have := h.1; omega
    · rcases hrw k e with h | h
      · have h := Option.some.inj h; omega
      · have := h.1; omega
  case h0 => exact ⟨⟨_, m4, Tor.Own.nil _ _ _⟩, rfl, Below.refl _ _⟩
  case hAx => exact fun x a' u X Y row e _ _ => e
  case assign =>
    rintro lp pre x W K' hIW hK'
    gi_wp2
    exact hK' _ _ (KeepsFrom.refl _ _) (KpP.refl _ _) hIW rfl
  case body =>
    rintro lp pre ⟨R, hR⟩ a' W hlp ⟨⟨v, hv, ho⟩, hbad, hB⟩ rfl hlen
    have hfl : (fldL pre).length ≤ 1000000 := by
      have h1 : (fldL pre).length ≤ pre.length := by unfold fldL; exact Nat.le_trans (List.length_filterMap_le _ _) (by simp)
      have h2 := (pcsG_len _ L rfl).1
      omega
    have hWs := hB.size
    have n2 := m2.below hB (by omega)
    have n3 := m3.below hB (by omega)
    have hBW : Below w.heap.size w W := hBL.trans (hB.mono (by omega))
    have hWd := h.below hBW
    have hRz : (bN R).size = R.length := rfl
    have HHP : Hid (∀ w1 : World, Calls Tryz.prog 29 #[.string (bN R), .string ⟨#[34]⟩] w1 fun e w' => e = .returned (.bool (Lib.hasPrefix R [34])) ∧ w' = w1) := Lib.hid (fun w1 => Tryz.strings_HasPrefix (bN R) ⟨#[34]⟩ w1)
    have hpf := hasPrefix_q R
    obtain ⟨i0, hi0, hz0', hz1', hz2'⟩ := info_parts infoFld
    obtain ⟨Av, cv, rfl, _, _⟩ := Tor.Own.rd fenc_len ho
    have kX := Blk.new W 78 #[.bool false, .string (bN R)]
    have hBx : Below W.heap.size W (W.alloc (.cells #[.bool false, .string (bN R)] 78)) := (Below.refl _ _).alloc (Nat.le_refl _) _
    have fin_bad : ∀ W' : World, Below W.heap.size W W' → fieldP R = none →
        KeepsFrom wL.heap.size W ((W'.setCell ⟨w.heap.size, 0, none⟩ (.slice none 0 0)).setCell ⟨w.heap.size + 1, 0, none⟩ (.int .i64 6)) ∧ badL (pre ++ [⟨R, hR⟩]) = true ∧
        Blk ((W'.setCell ⟨w.heap.size, 0, none⟩ (.slice none 0 0)).setCell ⟨w.heap.size + 1, 0, none⟩ (.int .i64 6)) w.heap.size 32 #[.slice none 0 0] ∧
        Blk ((W'.setCell ⟨w.heap.size, 0, none⟩ (.slice none 0 0)).setCell ⟨w.heap.size + 1, 0, none⟩ (.int .i64 6)) (w.heap.size + 1) 24 #[.int .i64 6] ∧
        Below w.heap.size w ((W'.setCell ⟨w.heap.size, 0, none⟩ (.slice none 0 0)).setCell ⟨w.heap.size + 1, 0, none⟩ (.int .i64 6)) ∧
        wL.heap.size ≤ ((W'.setCell ⟨w.heap.size, 0, none⟩ (.slice none 0 0)).setCell ⟨w.heap.size + 1, 0, none⟩ (.int .i64 6)).heap.size := fun W' hb hf => by
      have hb2 := hBW.trans (hb.mono hBW.size)
      refine ⟨(kf_below hb).trans (((KeepsOthers.setCell _ _ _).trans (KeepsOthers.setCell _ _ _)).from _), badL_miss (x := ⟨R, hR⟩) pre hf, ((n2.below' hb).set_ 0 _).far (by simp) _, ((n3.below' hb).far (by simp) _).set_ 0 _, (hb2.setCell (p := ⟨w.heap.size, 0, none⟩) (Nat.le_refl _) _).setCell (p := ⟨w.heap.size + 1, 0, none⟩) (by simp) _, ?_⟩
      have := hb.size; simp; omega
    have FF := Lib.hid fin_bad
    clear fin_bad
    have HR := Lib.hid (fun (x : Fld) (w1 : World) (hx : x.s.length ≤ 1000000) => right_any x w1 hx)
    by_cases hd : R.head? = some 34
    · rw [hpf, decide_eq_true hd] at HHP
      have HU := Lib.hid (unquote_any R (W.alloc (.cells #[.bool false, .string (bN R)] 78)) (by omega) (hWd.below hBx))
      obtain ⟨t, ht⟩ : ∃ t, Hid ((unqP R).1 = t) := ⟨_, Lib.hid rfl⟩
      obtain ⟨e, he⟩ : ∃ e, Hid ((unqP R).2 = e) := ⟨_, Lib.hid rfl⟩
      have hf0 : Hid (fieldP R = (if e ≠ 0 then none else if textB t then some ⟨true, t⟩ else none)) := by
        rw [Hid]; unfold fieldP; rw [if_pos hd, he.out, ht.out]
      rw [ht.out, he.out] at HU
      clear hpf
      gi_wp2
      refine ⟨trivial, ?_⟩
      gi_at_call 29
      refine (CallsIn.inRound lp (callsIn_wide.2 (HHP.out _))).mono ?_
      rintro e1 w1 ⟨rfl, rfl⟩
      gi_wp2
      refine ⟨trivial, ?_⟩
      gi_at_call 30
      refine (CallsIn.inRound lp (callsIn_wide.2 HU.out)).mono ?_
      rintro e1 w3 ⟨rfl, hB3⟩
      have hB3' := hBx.trans (hB3.mono hBx.size)
      have kX3 := kX.below' hB3
      have q2 := (n2.below' hB3').cell 0 _ rfl
      have q3 := (n3.below' hB3').cell 0 _ rfl
      have z2 := (n2.below' hB3').frozen 0
      have z3 := (n3.below' hB3').frozen 0
      have y2 := (n2.below' hB3').lt
      have y3 := (n3.below' hB3').lt
      by_cases he0 : e = 0
      · subst he0
        have y4 := kX3.lt
        have z4 := kX3.frozen 0
        have z5 := kX3.frozen 1
        have x0 := kX3.cell 0 _ rfl
        have x1 := kX3.cell 1 _ rfl
        have hf := Lib.hid (show fieldP R = if rightF ⟨true, t⟩ then some ⟨true, t⟩ else none by rw [hf0.out, if_neg (by simp)]; rfl)
        clear hf0 he
        gi_wp2
        obtain ⟨w4, hw4⟩ : ∃ w4, (w3.setCell ⟨W.heap.size, 0, none⟩ (.bool true)).setCell ⟨W.heap.size, 1, none⟩ (.string (bN t)) = w4 := ⟨_, rfl⟩
        have hB4 : Below W.heap.size W w4 := by rw [← hw4]; exact (hB3'.setCell (p := ⟨W.heap.size, 0, none⟩) (Nat.le_refl _) _).setCell (p := ⟨W.heap.size, 1, none⟩) (Nat.le_refl _) _
        have kX4 : Blk w4 W.heap.size 78 #[.bool true, .string (bN t)] := by rw [← hw4]; exact (kX3.set_ 0 _).set_ 1 _
        rw [hw4]
        have htl : t.length ≤ 1000000 := by rw [← ht.out]; have := unq_len R; omega
        clear hw4 q2 q3 z2 z3 y2 y3 y4 z4 z5 x0 x1
        have hY1 : (⟨true, t⟩ : Fld).s.length ≤ 1000000 := htl
        have HRr := Lib.hid (HR.out ⟨true, t⟩ w4 hY1)
        obtain ⟨b, hb⟩ : ∃ b, Hid (rightF ⟨true, t⟩ = b) := ⟨_, Lib.hid rfl⟩
        have hf4 := hf.out
        rw [hb.out] at HRr hf4
        clear hb HR hY1
        refine ⟨trivial, ?_⟩
        gi_at_call 31
        refine (CallsIn.inRound lp (callsIn_wide.2 HRr.out)).mono ?_
        rintro e1 w5 ⟨rfl, hB5⟩
        have hB5' := hB4.trans (hB5.mono hB4.size)
        have kX5 := kX4.below' hB5
        have hv5 := hv.below' hB5'
        have ho5 := ho.below hB5'
        have q2 := (n2.below' hB5').cell 0 _ rfl
        have q3 := (n3.below' hB5').cell 0 _ rfl
        have q4 := hv5.cell 0 _ rfl
        have z2 := (n2.below' hB5').frozen 0
        have z3 := (n3.below' hB5').frozen 0
        have y2 := (n2.below' hB5').lt
        have y3 := (n3.below' hB5').lt
        have hs5 := hB5'.size
        cases b
        · have hfn := Lib.hid (show fieldP R = none by rw [hf4]; rfl)
          gi_wp2
          obtain ⟨j1, j2, j3, j4, j5, j6⟩ := FF.out w5 hB5' hfn.out
          exact ⟨j1, rfl, j2, j3, j4, j5, j6⟩
        · have hfs := Lib.hid (show fieldP R = some ⟨true, t⟩ by rw [hf4]; rfl)
          have x0 := kX5.cell 0 _ rfl
          have x1 := kX5.cell 1 _ rfl
          clear hf4 FF HRr hf
          gi_wp2_with (first
            | (gi_at_builtin
               refine wpListIn_append_enc fenc_len fenc_one (by omega) (show (24 : Nat) ≤ 1000 by omega) rfl (.tmp 33) (.tmp 35) _ rfl wL.heap.size _ i0 _ Tryz.underlying32 hi0 hz0' hz1' hz2' rfl (.slice Av (fldL pre).length cv) _ rfl (ho5.alloc (.cells (fenc ⟨true, t⟩).toArray 78)) _ ⟨true, t⟩ rfl (cells_at (fenc ⟨true, t⟩) (by simp)) hfl (by simp; omega) ?_
               intro v8 w8 hown8 hg8
               obtain ⟨A8, c8, rfl, _, _⟩ := Tor.Own.rd fenc_len hown8
               simp only [List.length_append, List.length_singleton] at hown8
               obtain ⟨u1, u2, u3, u4, u5⟩ := appendedS (H := w.heap.size + 2) wL.heap.size hv5 ho5 (by omega) (by omega) (by omega) hown8 hg8
               have u6 := u1.cell 0 _ rfl
               have u7 := u1.frozen 0
               have u8 := u1.lt)
            | fail)
          exact ⟨(kf_below hB5').trans u4, (KpP.below hB5' (by omega)).trans u5, ⟨_, u2, by rw [fldL_hit (x := ⟨R, hR⟩) pre hfs.out]; exact u3⟩, by rw [badL_hit (x := ⟨R, hR⟩) pre hfs.out]; exact hbad, (hB.trans (hB5'.mono (by omega))).trans u5.1⟩
      · have he1 : (e != 0) = true := by simpa using he0
        have hf := Lib.hid (show fieldP R = none by rw [hf0.out, if_pos he0])
        clear he0
        gi_wp2
        obtain ⟨j1, j2, j3, j4, j5, j6⟩ := FF.out w3 hB3' hf.out
        exact ⟨j1, rfl, j2, j3, j4, j5, j6⟩
    · rw [hpf, decide_eq_false hd] at HHP
      have hf := Lib.hid (show fieldP R = if rightF ⟨false, R⟩ then some ⟨false, R⟩ else none by unfold fieldP; rw [if_neg hd])
      clear hpf hd
      gi_wp2
      refine ⟨trivial, ?_⟩
      gi_at_call 29
      refine (CallsIn.inRound lp (callsIn_wide.2 (HHP.out _))).mono ?_
      rintro e1 w1 ⟨rfl, rfl⟩
      have x0 := kX.cell 0 _ rfl
      have x1 := kX.cell 1 _ rfl
      gi_wp2
      obtain ⟨w4, hw4⟩ : ∃ w4, W.alloc (.cells #[.bool false, .string (bN R)] 78) = w4 := ⟨_, rfl⟩
      have hB4 : Below W.heap.size W w4 := by rw [← hw4]; exact hBx
      have kX4 : Blk w4 W.heap.size 78 #[.bool false, .string (bN R)] := by rw [← hw4]; exact kX
      rw [hw4]
      clear hw4 x0 x1
      have hY1 : (⟨false, R⟩ : Fld).s.length ≤ 1000000 := (by show R.length ≤ _; omega)
      have HRr := Lib.hid (HR.out ⟨false, R⟩ w4 hY1)
      obtain ⟨b, hb⟩ : ∃ b, Hid (rightF ⟨false, R⟩ = b) := ⟨_, Lib.hid rfl⟩
      have hf4 := hf.out
      rw [hb.out] at HRr hf4
      clear hb HR hY1
      refine ⟨trivial, ?_⟩
      gi_at_call 31
      refine (CallsIn.inRound lp (callsIn_wide.2 HRr.out)).mono ?_
      rintro e1 w5 ⟨rfl, hB5⟩
      have hB5' := hB4.trans (hB5.mono hB4.size)
      have kX5 := kX4.below' hB5
      have hv5 := hv.below' hB5'
      have ho5 := ho.below hB5'
      have q2 := (n2.below' hB5').cell 0 _ rfl
      have q3 := (n3.below' hB5').cell 0 _ rfl
      have q4 := hv5.cell 0 _ rfl
      have z2 := (n2.below' hB5').frozen 0
      have z3 := (n3.below' hB5').frozen 0
      have y2 := (n2.below' hB5').lt
      have y3 := (n3.below' hB5').lt
      have hs5 := hB5'.size
      cases b
      · have hfn := Lib.hid (show fieldP R = none by rw [hf4]; rfl)
        gi_wp2
        obtain ⟨j1, j2, j3, j4, j5, j6⟩ := FF.out w5 hB5' hfn.out
        exact ⟨j1, rfl, j2, j3, j4, j5, j6⟩
      · have hfs := Lib.hid (show fieldP R = some ⟨false, R⟩ by rw [hf4]; rfl)
        have x0 := kX5.cell 0 _ rfl
        have x1 := kX5.cell 1 _ rfl
        clear hf4 FF HRr hf
        gi_wp2_with (first
          | (gi_at_builtin
             refine wpListIn_append_enc fenc_len fenc_one (by omega) (show (24 : Nat) ≤ 1000 by omega) rfl (.tmp 33) (.tmp 35) _ rfl wL.heap.size _ i0 _ Tryz.underlying32 hi0 hz0' hz1' hz2' rfl (.slice Av (fldL pre).length cv) _ rfl (ho5.alloc (.cells (fenc ⟨false, R⟩).toArray 78)) _ ⟨false, R⟩ rfl (cells_at (fenc ⟨false, R⟩) (by simp)) hfl (by simp; omega) ?_
             intro v8 w8 hown8 hg8
             obtain ⟨A8, c8, rfl, _, _⟩ := Tor.Own.rd fenc_len hown8
             simp only [List.length_append, List.length_singleton] at hown8
             obtain ⟨u1, u2, u3, u4, u5⟩ := appendedS (H := w.heap.size + 2) wL.heap.size hv5 ho5 (by omega) (by omega) (by omega) hown8 hg8
             have u6 := u1.cell 0 _ rfl
             have u7 := u1.frozen 0
             have u8 := u1.lt)
          | fail)
        exact ⟨(kf_below hB5').trans u4, (KpP.below hB5' (by omega)).trans u5, ⟨_, u2, by rw [fldL_hit (x := ⟨R, hR⟩) pre hfs.out]; exact u3⟩, by rw [badL_hit (x := ⟨R, hR⟩) pre hfs.out]; exact hbad, (hB.trans (hB5'.mono (by omega))).trans u5.1⟩
  case done =>
    rintro D ys W hD hS ⟨⟨v, hv, ho⟩, hbad, hB⟩ hK9
    obtain ⟨e1, e2⟩ := fldL_all hS
    rw [e1] at ho
    rw [e2] at hbad
    have hsp := Lib.hid (SO.out hbad)
    have hln := filterMap_len _ hbad
    rw [List.length_map] at hln
    obtain ⟨G, hG⟩ : ∃ G, Hid (((pcsG L).map fieldP).filterMap id = G) := ⟨_, Lib.hid rfl⟩
    have hsp1 := hsp.out
    rw [hG.out] at ho hsp1 hln
    have hsp := Lib.hid hsp1
    clear hsp1 hG
    have hWs := hB.size
    have n2 := m2.below hB (by omega)
    have n3 := m3.below hB (by omega)
    have r4 := hv.cell 0 _ rfl
    have r2 := n2.cell 0 _ rfl
    have r3 := n3.cell 0 _ rfl
    have z2 := n2.frozen 0
    have z3 := n3.frozen 0
    have y2 := n2.lt
    have y3 := n3.lt
    obtain ⟨Av, cv, rfl, _, _⟩ := Tor.Own.rd fenc_len ho
    clear SB SO e1 e2 hbad
    by_cases h64 : 64 < (pcsG L).length
    · have hsp2 := Lib.hid (show splitP L = ([], 3) by rw [hsp.out, if_pos h64])
      have a2 : (64 : Int) < (G.length : Int) := by omega
      clear hsp h64 hln
      gi_wp2
      refine ⟨by simp, .inl ⟨_, _, rfl, run_takeDeferred (((KeepsOthers.setCell _ _ _).trans (KeepsOthers.setCell _ _ _)).same D _ hK9 rfl), ?_⟩⟩
      have hKd := ((KeepsOthers.setCell W ⟨w.heap.size, 0, none⟩ (.slice none 0 0)).trans (KeepsOthers.setCell _ ⟨w.heap.size + 1, 0, none⟩ (.int .i64 3))).same D _ hK9 rfl
      have hBd : Below w.heap.size w ((W.setCell ⟨w.heap.size, 0, none⟩ (.slice none 0 0)).setCell ⟨w.heap.size + 1, 0, none⟩ (.int .i64 3)) := ((hBL.trans (hB.mono (by omega))).setCell (p := ⟨w.heap.size, 0, none⟩) (Nat.le_refl _) _).setCell (p := ⟨w.heap.size + 1, 0, none⟩) (by simp) _

      have hs3 := hBd.size
      refine ⟨_, split_results rfl rfl (((n2.set_ 0 _).far (by simp) _).grown (grownBy_putObj' _ D _) (fun e => by simp at e; omega)) (((n3.far (by simp) _).set_ 0 _).grown (grownBy_putObj' _ D _) (fun e => by simp at e; omega)), ?_⟩
      rw [hsp2.out]
      exact ⟨_, rfl, Tor.Own.nil _ _ _, hBd.grown (grownBy_putObj' _ D _) hs3 (fun k e => by cases e; omega)⟩
    · have hsp2 := Lib.hid (show splitP L = (G, 0) by rw [hsp.out, if_neg h64])
      have a2 : ¬ (64 : Int) < (G.length : Int) := by omega
      clear hsp h64 hln
      gi_wp2
      refine ⟨by simp, .inl ⟨_, _, rfl, run_takeDeferred (((KeepsOthers.setCell _ _ _).trans (KeepsOthers.setCell _ _ _)).same D _ hK9 rfl), ?_⟩⟩
      have hKd := ((KeepsOthers.setCell W ⟨w.heap.size, 0, none⟩ (.slice Av G.length cv)).trans (KeepsOthers.setCell _ ⟨w.heap.size + 1, 0, none⟩ (.int .i64 0))).same D _ hK9 rfl
      have hBd : Below w.heap.size w ((W.setCell ⟨w.heap.size, 0, none⟩ (.slice Av G.length cv)).setCell ⟨w.heap.size + 1, 0, none⟩ (.int .i64 0)) := ((hBL.trans (hB.mono (by omega))).setCell (p := ⟨w.heap.size, 0, none⟩) (Nat.le_refl _) _).setCell (p := ⟨w.heap.size + 1, 0, none⟩) (by simp) _
      have ho2 : Tor.Own 2 fenc ((W.setCell ⟨w.heap.size, 0, none⟩ (.slice Av G.length cv)).setCell ⟨w.heap.size + 1, 0, none⟩ (.int .i64 0)) wL.heap.size 78 (.slice Av G.length cv) G := ownsRow_setCell_below (ownsRow_setCell_below ho (a := ⟨w.heap.size, 0, none⟩) (by simp; omega) _) (a := ⟨w.heap.size + 1, 0, none⟩) (by simp; omega) _
      have hs3 := hBd.size
      refine ⟨_, split_results rfl rfl (((n2.set_ 0 _).far (by simp) _).grown (grownBy_putObj' _ D _) (fun e => by simp at e; omega)) (((n3.far (by simp) _).set_ 0 _).grown (grownBy_putObj' _ D _) (fun e => by simp at e; omega)), ?_⟩
      rw [hsp2.out]
      exact ⟨_, rfl, (ho2.grownW (grownBy_putObj' _ D _) (fun r e => .inr (by cases e; exact ⟨_, hKd, rfl⟩))).base (by omega), hBd.grown (grownBy_putObj' _ D _) hs3 (fun k e => by cases e; omega)⟩
  case stop =>
    rintro D c' pre W hD hSp ⟨rfl, hbad, h3, h4, hB, hWs⟩ hK9
    rw [SB.out pre hSp hbad]
    gi_wp2
    refine ⟨by simp, .inl ⟨_, _, rfl, run_takeDeferred hK9, ?_⟩⟩
    have hs3 := hB.size
    refine ⟨_, split_results rfl rfl (h3.grown (grownBy_putObj' _ D _) (fun e => by simp at e; omega)) (h4.grown (grownBy_putObj' _ D _) (fun e => by simp at e; omega)), ?_⟩
    exact ⟨_, rfl, Tor.Own.nil _ _ _, hB.grown (grownBy_putObj' _ D _) hs3 (fun k e => by cases e; omega)⟩
end Go.Proofs.YtohcmfobnkaaiaaGreatDoor
