/- torchonref15: much; the row that keeps what is made. -/
import Derived.Test.YtogkgoabonbkkaaRNext
set_option linter.unusedSimpArgs false
set_option linter.unusedVariables false
namespace Go.Proofs.Ytogkgoabonbkkaa
open Go Go.RowKit Tor

theorem infoBool : (Try.prog.info? 4).map (fun i => (i.zero, i.size, i.bytes)) = some (some (.bool false), 1, 1) := by kernel_rfl

theorem flat_benc : ∀ l : List Bool, l.flatMap benc = l.map Value.bool
  | [] => rfl
  | x :: l => by rw [List.flatMap_cons, flat_benc l]; rfl
theorem doneL_set {n : Nat} {M : List Nat} {i : Nat} : (doneL n M).set i true = doneL n (M ++ [i]) := by
  apply List.ext_getElem
  · simp [doneL_len]
  · intro k h1 h2
    rw [List.getElem_set, doneL_get h2]
    split
    · next e => subst e; simp
    · next e => rw [doneL_get (by simpa using h1)]; simp [Ne.symm e]

/-- the row that keeps what is made -/
def DoneRow (w : World) (base g cap n : Nat) (M : List Nat) : Prop := Own 1 benc w base 4 (.slice (some ⟨g, 0, none⟩) n cap) (doneL n M)

section
variable {w w' : World} {base g cap n : Nat} {M : List Nat}
theorem DoneRow.heap (h : DoneRow w base g cap n M) : base ≤ g ∧ g < w.heap.size ∧ ∃ cur, w.heap[g]? = some (.cells cur 4 (0, 0)) := by
  rcases h.2 with ⟨h', _⟩ | ⟨g', cap', cur, h', hb, hg, _⟩
  · simp at h'
  · simp only [Value.slice.injEq, Option.some.injEq, Addr.mk.injEq, and_true, true_and] at h'
    obtain ⟨rfl, _, rfl⟩ := h'
    exact ⟨hb, (Array.getElem?_eq_some_iff.1 hg).1, cur, hg⟩
theorem DoneRow.rd (h : DoneRow w base g cap n M) : RdB w w.heap.size (some ⟨g, 0, none⟩) (doneL n M) := by
  obtain ⟨A, c, e, _, hr⟩ := Own.rd bool_len h
  injection e with e1 _ _
  rw [e1]; exact hr
theorem DoneRow.cell (h : DoneRow w base g cap n M) {i : Nat} (hi : i < n) : w.cell? ⟨g, i, none⟩ = some (.bool (M.contains i)) := by
  obtain ⟨b, o, e, _, hc⟩ := Rd.bool h.rd (k := i) (by rw [doneL_len]; exact hi)
  injection e with e
  injection e with e1 e2 _
  subst e1; subst e2
  rw [doneL_get, Nat.zero_add] at hc
  exact hc
theorem DoneRow.below (h : DoneRow w base g cap n M) (hB : Below w.heap.size w w') : DoneRow w' base g cap n M := Own.below h hB
theorem DoneRow.frozen (h : DoneRow w base g cap n M) (i : Nat) : w.frozen? ⟨g, i, none⟩ = false := by
  have h' := h
  unfold DoneRow Own at h'
  rw [doneL_len] at h'
  exact h'.frozenAt i
theorem DoneRow.store (h : DoneRow w base g cap n M) (i : Nat) : DoneRow (w.setCell ⟨g, i, none⟩ (.bool true)) base g cap n (M ++ [i]) ∧ w.grownBy (w.setCell ⟨g, i, none⟩ (.bool true)) (some g) := by
  have h' := h
  unfold DoneRow Own at h' ⊢
  rw [doneL_len] at h' ⊢
  obtain ⟨h1, h2⟩ := h'.stored i (.bool true)
  refine ⟨?_, h2⟩
  have e : ((doneL n M).flatMap benc).set i (.bool true) = (doneL n (M ++ [i])).flatMap benc := by
    rw [flat_benc, flat_benc, ← doneL_set, List.map_set]
  rw [← e]; exact h1
theorem DoneRow.other (h : DoneRow w base g cap n M) {row : Option Nat} (hg : w.grownBy w' row) (hne : some g ≠ row) : DoneRow w' base g cap n M := by
  obtain ⟨h1, h2⟩ := h
  refine ⟨h1, ?_⟩
  rcases h2 with h2 | ⟨g', cap', cur, hv, hb, hh, r⟩
  · exact Or.inl h2
  · simp only [Value.slice.injEq, Option.some.injEq, Addr.mk.injEq, and_true, true_and] at hv
    obtain ⟨rfl, hnn, rfl⟩ := hv
    exact Or.inr ⟨g, cap, cur, by rw [← hnn], hb, (hg.block g (Array.getElem?_eq_some_iff.1 hh).1 hne).trans hh, r⟩
theorem DoneRow.alloc (h : DoneRow w base g cap n M) (o : Obj) : DoneRow (w.alloc o) base g cap n M := Own.alloc h o
end

/-- an owned row of n > 0 bools has an address -/
theorem DoneRow.of {w : World} {base n : Nat} {M : List Nat} {v : Value} (hn : 0 < n) (h : w.ownsRow base 4 1 v n ((doneL n M).flatMap benc)) : ∃ g cap, v = .slice (some ⟨g, 0, none⟩) n cap ∧ DoneRow w base g cap n M := by
  have h2 := h.2
  rcases h2 with ⟨_, h0⟩ | ⟨g, cap, cur, hv, _⟩
  · omega
  · subst hv
    refine ⟨g, cap, rfl, ?_⟩
    unfold DoneRow Own
    rw [doneL_len]; exact h

theorem rdB_news {w : World} {B : Nat} {b o : Nat} {l : List Bool} (hl : l ≠ []) (h : RdB w B (some ⟨b, o, none⟩) l) : ∀ (j : Nat) u, (l.flatMap benc)[j]? = some u → w.cell? (Addr.add ⟨b, o, none⟩ j) = some u := by
  intro j u hu
  obtain ⟨b', o', e, _, hc⟩ := h hl
  injection e with e
  injection e with e1 e2 _
  subst e1; subst e2
  rw [flat_benc, List.getElem?_map] at hu
  cases hj : l[j]? with
  | none => rw [hj] at hu; cases hu
  | some x =>
    rw [hj] at hu
    simp only [Option.map_some, Option.some.injEq] at hu
    subst hu
    have := hc j x hj 0 _ rfl
    simp only [Nat.mul_one, Nat.add_zero] at this
    unfold Addr.add
    split
    · next e => subst e; simpa using this
    · exact this

set_option maxRecDepth 100000 in
set_option maxHeartbeats 2000000 in
theorem much_any' (p : Int) (A : Option Addr) (l : List Tri) (c : Nat) (Ad : Option Addr) (M : List Nat) (cd : Nat) (h s : Int) (w : World) (H : Nat) (hr : RdT w H A l) (hd : RdB w H Ad (doneL l.length M)) (hH : H ≤ w.heap.size)
    (hb : ∀ (k : Nat) (hk : k < l.length), 0 ≤ l[k].b ∧ l[k].b ≤ 100) (hl : l.length ≤ 1000) (hl0 : 0 < l.length) (a1 : -1 ≤ h) (a2 : h ≤ 100) (a3 : 0 ≤ s) (a4 : s ≤ 100) (hnd : M.Nodup) (hM : ∀ x ∈ M, x < l.length) :
    Calls Try.prog 44 #[.agg #[.int .i64 p, .slice A l.length c], .slice Ad l.length cd, .int .i64 h, .int .i64 s] w (Ret (.int .i64 (mseq l h s l.length M).length) w) := by
  obtain ⟨i0, hi0, hz0', hz1', hz2'⟩ := info_parts infoBool
  have HH := Lib.hid hb
  have HN := Lib.hid hnd
  have HM := Lib.hid hM
  have hne : doneL l.length M ≠ [] := by intro e; have := congrArg List.length e; rw [doneL_len, List.length_nil] at this; omega
  obtain ⟨bd, od, hAd, hbd, -⟩ := hd hne
  subst hAd
  have HD := Lib.hid hd
  have HNE := Lib.hid hne
  clear hb hd hnd hM hne
  go_enter Try.func44, Try.ntmps44
  go_wp2_with (first
    | (at_builtin; refine wpList_append_own _ rfl (.tmp 12) (.tmp 13) _ rfl (w.heap.size + 1) _ i0 _ 1 1 Try.underlying66 hi0 hz0' hz1' hz2' rfl (by omega) (.slice (some ⟨w.heap.size + 1, 0, none⟩) 0 0) 0 [] rfl
        (by have := World.ownsRow_lit (base := w.heap.size + 1) (e := 4) (size := 1) (w.alloc (.cells #[.int .i64 p, .slice A l.length c] 24)) #[] 0 (by simp) (by unfold maxLen; omega) rfl; simpa using this)
        ⟨bd, od, none⟩ l.length cd ((doneL l.length M).flatMap benc) rfl (by rw [flat_benc, List.length_map, doneL_len, Nat.mul_one])
        (rdB_news HNE.out (HD.out.below' (B' := w.heap.size) (by (repeat' first | exact Below.refl _ _ | apply Below.drew | (refine Below.setCells ?_ _ _ ?_) | (refine Below.setCell ?_ ?_ _) | (refine Below.alloc ?_ ?_ _) | (simp; done) | (simp; omega))) hH)) (by rw [flat_benc]; intro u hu; obtain ⟨x, _, rfl⟩ := List.mem_map.1 hu; rfl) (by unfold maxLen; omega) (by omega) (by simp) ?_
       intro v' w1 hown1 hg1 _
       obtain ⟨g, cap, rfl, hD1⟩ := DoneRow.of hl0 (by simpa using hown1)
       have hB1 : Below (w.heap.size + 1) (w.alloc (.cells #[.int .i64 p, .slice A l.length c] 24)) w1 := Below.grown (w := (w.alloc (.cells #[.int .i64 p, .slice A l.length c] 24)).alloc (.cells #[] 4)) (by (repeat' first | exact Below.refl _ _ | apply Below.drew | (refine Below.setCells ?_ _ _ ?_) | (refine Below.setCell ?_ ?_ _) | (refine Below.alloc ?_ ?_ _) | (simp; done) | (simp; omega))) hg1 (by simp) (fun k hk => by simp [Value.ownBlock] at hk; omega)
       have c0 := box_cell hB1 0 (.int .i64 p) rfl
       have c1 := box_cell hB1 1 (.slice A l.length c) rfl
       have n0 := box_lt hB1
       have hBw1 := box_below hB1)
    | (go_at_call 42; refine (rnext_any p A l c _ M cap h s w1 w1.heap.size ((hr.below' hBw1 hH).more (by have := hBw1.size; omega)) hD1.rd (Nat.le_refl _) HH.out hl (by omega) (by omega) (by omega) (by omega)).mono ?_; rintro e w2 ⟨rfl, hB2⟩
       have hD2 := hD1.below hB2
       have hC2 := hB1.trans (hB2.mono (by omega))))
  go_loopw [10, 11] (fun k v wr => ∃ (kk : Nat) (M' : List Nat) (f : Nat), k = .int .i64 kk ∧ v = .int .i64 (nextUpto l M' h s l.length) ∧ f + kk = l.length ∧ kk ≤ M'.length ∧ Hid (kk + (mseq l h s f M').length = (mseq l h s l.length M).length) ∧ Hid M'.Nodup ∧ Hid (∀ x ∈ M', x < l.length) ∧
      DoneRow wr (w.heap.size + 1) g cap l.length M' ∧ Below (w.heap.size + 1) (w.alloc (.cells #[.int .i64 p, .slice A l.length c] 24)) wr) (fun k _ _ => l.length - (intOf k).toNat)
  case atStart => exact ⟨0, M, l.length, rfl, rfl, by omega, by omega, by rw [Hid, Nat.zero_add], HN, HM, hD2, hC2⟩
  case round =>
    obtain ⟨kk, M', f, rfl, rfl, hf, hkM, hinv, hnd', hM', hD, hB⟩ := hrel
    clear hD1 hD2 hC2 hB1 hB2 c0 c1 n0 hg1 hown1
    by_cases hn : 0 ≤ nextUpto l M' h s l.length
    · obtain ⟨i, e, hi, hc⟩ := next_can hn
      obtain ⟨n1, n2⟩ := snoc_ok hnd'.out hM'.out hi (can_new hc)
      have hlen := len_of_nodup _ _ n1 n2
      rw [List.length_append, List.length_singleton] at hlen
      obtain ⟨f', rfl⟩ : ∃ f', f = f' + 1 := ⟨f - 1, by omega⟩
      have hms : (mseq l h s (f' + 1) M').length = (mseq l h s f' (M' ++ [i])).length + 1 := by
        rw [mseq, e, if_pos (by omega)]; simp
      have HMS := Lib.hid hms
      have N1 := Lib.hid n1
      have N2 := Lib.hid n2
      rw [e]
      have hcell := hD.cell hi
      have hfr := hD.frozen i
      obtain ⟨hbg, hgl, _⟩ := hD.heap
      obtain ⟨hDs, hgs⟩ := hD.store i
      have hBs := hB.grown hgs (by omega) (fun k hk => by simp at hk; omega)
      have c0 := box_cell hBs 0 (.int .i64 p) rfl
      have c1 := box_cell hBs 1 (.slice A l.length c) rfl
      have n0 := box_lt hBs
      have hBws := box_below hBs
      have k2 : (0 : Int) ≤ (i : Int) := by omega
      have k3 : (i : Int) < (l.length : Int) := by omega
      clear hn e hms hc n1 n2
      go_wp2_with (first
        | (go_at_call 42; refine (rnext_any p A l c _ (M' ++ [i]) cap h s _ (wr.setCell ⟨g, i, none⟩ (.bool true)).heap.size ((hr.below' hBws hH).more (by have := hBws.size; omega)) hDs.rd (Nat.le_refl _) HH.out hl (by omega) (by omega) (by omega) (by omega)).mono ?_; rintro e w3 ⟨rfl, hB3⟩
           have hD3 := hDs.below hB3
           have hC3 := hBs.trans (hB3.mono (by omega))))
      go_roundw
      case rel => exact ⟨kk + 1, M' ++ [i], f', by go_num, rfl, by omega, by simp; omega, by rw [Hid, ← hinv.out, HMS.out]; omega, N1, N2, hD3, hC3⟩
      case measure => simp [intOf]; omega
    · have hz : (mseq l h s f M').length = 0 := by
        cases f with
        | zero => rfl
        | succ f => rw [mseq, if_neg hn]; rfl
      have HZ := Lib.hid hz
      clear hz
      go_wp2_with fail
      go_ret
      exact Ret.int (by rw [← hinv.out, HZ.out]; rfl) (box_below hB)

end Go.Proofs.Ytogkgoabonbkkaa
