/- torchonref02.Normal. -/
import Derived.Test.YtfnklchhhojimaaBrdT
set_option linter.unusedSimpArgs false
set_option linter.unusedVariables false
namespace Go.Proofs.Ytfnklchhhojimaa
open Go Go.RowKit Tor Brd

theorem infoInts25 : (Try.prog.info? 38).map (fun i => (i.zero, i.size, i.bytes)) = some (some (.slice none 0 0), 1, 24) := by kernel_rfl
/-- a row of slices: one more behind the others -/
theorem wpList_append_fac {P : Program} {ops : Array Oper} {rest : List Oper} {o : Oper} {a : Act} {Q : Exit → Act → World → Prop} {w : World} (hgd : o.guard = none) (s x : Operand) (t : TypeId)
    (ho : o.op = .call { callee := .builtin .append, args := #[s, x], argTypes := #[t, t] })
    (base : Nat) (e : TypeId) (i : TypeInfo) (z : Value) (ht : P.underlying t = some (.slice e)) (hi : P.info? e = some i) (hz : i.zero = some z)
    (hsize : i.size = 1) (hby : i.bytes = 24) (hzs : z.cells.size = 1)
    (v : Value) (l : List Value) (hs : a.eval s = v) (hown : Own 1 venc w base e v l)
    (g : Nat) (A : Option Addr) (n c : Nat) (hx : a.eval x = .slice (some ⟨g, 0, none⟩) 1 1) (h0 : w.cell? ⟨g, 0, none⟩ = some (.slice A n c))
    (hlen : l.length ≤ 1000000) (hbase : base ≤ w.heap.size)
    (h : ∀ v' w', Own 1 venc w' base e v' (l ++ [.slice A n c]) → w.grownBy w' v.ownBlock → wpList P ops Q rest (a.put o.dst v') w') : wpList P ops Q (o :: rest) a w := by
  refine wpList_append_own w hgd s x t ho base e i z 1 24 ht hi hz hsize hby hzs (by omega) v l.length (l.flatMap venc) hs hown ⟨g, 0, none⟩ 1 1 (venc (.slice A n c)) hx rfl ?_ ?_ (by unfold maxLen; omega) (by omega) hbase
    (fun v' w' a b _ => h v' w' (Own.append1 rfl a) b)
  · intro j u hu
    match j, hu with
    | 0, hu => simp [venc] at hu; subst hu; simpa [Addr.add] using h0
  · intro u hu
    simp [venc] at hu; subst hu; rfl
theorem step_append_fac {P : Program} {ops : Array Oper} {o : Oper} {a : Act} {K : Act → World → Prop} {Q : Exit → Act → World → Prop} {E : Prop} {w : World} (hgd : o.guard = none) (s x : Operand) (t : TypeId)
    (ho : o.op = .call { callee := .builtin .append, args := #[s, x], argTypes := #[t, t] })
    (base : Nat) (e : TypeId) (i : TypeInfo) (z : Value) (ht : P.underlying t = some (.slice e)) (hi : P.info? e = some i) (hz : i.zero = some z)
    (hsize : i.size = 1) (hby : i.bytes = 24) (hzs : z.cells.size = 1)
    (v : Value) (l : List Value) (hs : a.eval s = v) (hown : Own 1 venc w base e v l)
    (g : Nat) (A : Option Addr) (n c : Nat) (hx : a.eval x = .slice (some ⟨g, 0, none⟩) 1 1) (h0 : w.cell? ⟨g, 0, none⟩ = some (.slice A n c))
    (hlen : l.length ≤ 1000000) (hbase : base ≤ w.heap.size)
    (h : ∀ v' w', Own 1 venc w' base e v' (l ++ [.slice A n c]) → w.grownBy w' v.ownBlock → K (a.put o.dst v') w') :
    if Region.wanted o (yielded ops a.tmps) = true then Oper.wp P o a w K Q else E := by
  rw [if_pos (by simp [Region.wanted, hgd])]
  refine wp_append_own w s x t ho base e i z 1 24 ht hi hz hsize hby hzs (by omega) v l.length (l.flatMap venc) hs hown ⟨g, 0, none⟩ 1 1 (venc (.slice A n c)) hx rfl ?_ ?_ (by unfold maxLen; omega) (by omega) hbase
    (fun v' w' a b _ => h v' w' (Own.append1 rfl a) b)
  · intro j u hu
    match j, hu with
    | 0, hu => simp [venc] at hu; subst hu; simpa [Addr.add] using h0
  · intro u hu
    simp [venc] at hu; subst hu; rfl
theorem mapTake_set {f : List Nat → List Nat} {L : List (List Nat)} {k : Nat} (hk : k < L.length) : ((L.take k).map f ++ L.drop k).set k (f L[k]) = (L.take (k + 1)).map f ++ L.drop (k + 1) := by
  have hl : ((L.take k).map f).length = k := by rw [List.length_map, List.length_take]; omega
  rw [List.set_append_right _ _ (by omega), hl, Nat.sub_self, List.drop_eq_getElem_cons hk, List.set_cons_zero, take_snoc _ k hk, List.map_append, List.append_assoc]
  rfl
theorem fac_g {w : World} {base : Nat} {v : Value} {vs : List Value} {R : List (List Nat)} (h : FacW w base v vs R) (hp : 0 < R.length) : ∃ g c, v = .slice (some ⟨g, 0, none⟩) vs.length c := by
  have hl := h.len
  rcases h.out.2 with ⟨_, e⟩ | ⟨g, cap, cur, e, _⟩
  · omega
  · exact ⟨g, cap, e⟩
theorem fac_frz {w : World} {base g c : Nat} {vs : List Value} {R : List (List Nat)} (h : FacW w base (.slice (some ⟨g, 0, none⟩) vs.length c) vs R) (i : Nat) : base ≤ g ∧ g < w.heap.size ∧ w.frozen? ⟨g, i, none⟩ = false := by
  have hl := World.ownsRow.lt h.out g rfl
  exact ⟨hl.1, hl.2, World.ownsRow.frozenAt h.out i⟩
theorem fac_at {w : World} {base g n c : Nat} {vs : List Value} {R : List (List Nat)} (h : FacW w base (.slice (some ⟨g, 0, none⟩) n c) vs R) {k : Nat} (hk : k < R.length) : ∃ Ak ck, w.cell? ⟨g, k, none⟩ = some (.slice Ak R[k].length ck) ∧ Rd 1 nenc w w.heap.size Ak R[k] := by
  obtain ⟨A, c', e, _, hr⟩ := h.rd
  injection e with e1 _ _
  obtain ⟨b, o, e2, _, Ak, ck, h1, h2⟩ := rowB hr hk
  rw [← e1] at e2
  injection e2 with e2
  injection e2 with e3 e4 _
  subst e3; subst e4
  rw [Nat.zero_add] at h1
  exact ⟨Ak, ck, h1, h2⟩
theorem lst_length (n : Nat) (u : List Int) : (Lst n u).length = u.length := by
  induction u with
  | nil => rfl
  | cons y u ih => simp [Lst, ih]
theorem getD_at {L : List (List Nat)} {k : Nat} (hk : k < L.length) : L.getD k [] = L[k] := by rw [List.getD_eq_getElem?_getD, List.getElem?_eq_getElem hk]; rfl
theorem set_same2 {L : List (List Nat)} {j : Nat} (hj : j + 1 < L.length) : (L.set j (L.getD j [])).set (j + 1) (L.getD (j + 1) []) = L := by rw [set_two hj]; exact (cut_two hj).symm
theorem fac_keep {w : World} {base g c : Nat} {v u x : Value} {vs : List Value} {R : List (List Nat)} {r : List Nat} (h : FacW w base v vs R) (hv : v = .slice (some ⟨g, 0, none⟩) vs.length c) (hu : Own 1 nenc w base 3 u r) (n : Nat) : Own 1 nenc (w.setCell ⟨g, n, none⟩ x) base 3 u r := by
  have hgb : v.ownBlock = some g := by rw [hv]; rfl
  have hst := h.out
  unfold Own at hst
  rw [flat_venc, hv] at hst
  obtain ⟨_, s2⟩ := World.ownsRow.stored hst n x
  have h2 := h.ne hu
  rw [hgb] at h2
  exact World.ownsRow.kept hu s2 h2
theorem fac_len {w : World} {base g n c m : Nat} {vs : List Value} {R : List (List Nat)} (h : FacW w base (.slice (some ⟨g, 0, none⟩) n c) vs R) (e : n = m) : FacW w base (.slice (some ⟨g, 0, none⟩) m c) vs R := e ▸ h
/-- what Normal returns -/
def NormRet (n : Nat) (W : List Int) (w : World) (e : Ending) (w' : World) : Prop :=
  ∃ A c pw L, e = .returned (.tuple #[.int .i64 pw, .slice A L.length c, .int .i64 0]) ∧ RdG w' w'.heap.size A L ∧ Fin_ n W (pw, L) ∧ (∀ r ∈ L, r.length ≤ 1000) ∧ L.length ≤ 100000 ∧ Below w.heap.size w w'
theorem flatD_iff {n : Nat} {p : List Nat} (h : PermL n p) : decide (p = delta n) = true ↔ ∀ i, 1 ≤ i → i < n → (at_ p i : Int) = at_ p (i - 1) + (-1) := by
  rw [decide_eq_true_eq, flat_delta h]
  constructor
  · intro g i h1 h2; have := g i h1 h2; omega
  · intro g i h1 h2; have := g i h1 h2; omega
theorem flatI_iff {n : Nat} {p : List Nat} (h : PermL n p) : decide (p = idl n) = true ↔ ∀ i, 1 ≤ i → i < n → (at_ p i : Int) = at_ p (i - 1) + 1 := by
  rw [decide_eq_true_eq, flat_idl h]
  constructor
  · intro g i h1 h2; have := g i h1 h2; omega
  · intro g i h1 h2; have := g i h1 h2; omega
theorem norm_take {W : List Int} {i : Nat} (hi : i < W.length) : W.take (i + 1) = W.take i ++ [W[i]] := take_snoc _ i hi

set_option maxRecDepth 100000 in
set_option maxHeartbeats 8000000 in
theorem bnormal_any (n : Nat) (h1n : 1 < n) (h12 : n ≤ 12) (A : Option Addr) (W : List Int) (c : Nat) (w : World) (H : Nat) (hr : RdI w H A W) (hH : H ≤ w.heap.size) (hl : W.length ≤ 400) (hin : ∀ x ∈ W, InR n x) :
    Calls Try.prog 22 #[.int .i64 n, .slice A W.length c] w (NormRet n W w) := by
  obtain ⟨j0, hj0, hy0', hy1', hy2'⟩ := info_parts infoInts25
  have HC := Lib.hid (bcheck_any n (by omega) h12 A W c w H hr hH hl hin)
  have HIN := Lib.hid hin
  clear hin
  go_enter Try.func22, Try.ntmps22
  go_wp2_with (first
    | (go_at_call 49; refine HC.out.mono ?_; rintro e w1 ⟨rfl, hB1⟩; clear HC)
    | fail)
  have hz1 := hB1.size
  go_loopw [8, 9, 10, 11] (fun pv v iv _ wr => ∃ (i : Nat) (vs : List Value), i ≤ W.length ∧ iv = .int .i64 i ∧ pv = .int .i64 (-(ngs (W.take i) : Int)) ∧ FacW wr w1.heap.size v vs (Lst n (W.take i)) ∧ Below w1.heap.size w1 wr) (fun _ _ iv _ _ => W.length - (intOf iv).toNat)
  case atStart => exact ⟨0, [], Nat.zero_le _, rfl, by simp [ngs], by simpa [Lst] using FacW.nil _ _, Below.refl _ _⟩
  case round =>
    obtain ⟨i, vs, hi, rfl, rfl, hF, hB⟩ := hrel
    have hz := hB.size
    have hBw := hB1.trans (hB.mono hz1)
    by_cases hlt : i < W.length
    · obtain ⟨b, o, hA, hb, m0⟩ := (hr.below' hBw hH).int hlt
      subst hA
      have lm := lt_of_cell m0
      have hx0 := HIN.out _ (List.getElem_mem hlt)
      obtain ⟨_, _, hA9, hb9, hm1⟩ := (hr.below' hB1 hH).int hlt
      cases hA9
      have hlo : b < w1.heap.size := by omega
      have hsn := lst_snoc (n := n) hx0.1 (W.take i)
      rw [← norm_take hlt] at hsn
      have hng : ngs (W.take (i + 1)) = ngs (W.take i) + ng W[i] := by rw [norm_take hlt]; exact ngs_snoc _ _
      obtain ⟨x, hx⟩ : ∃ x, Hid (W[i] = x) := ⟨_, Lib.hid rfl⟩
      rw [hx.out] at m0 hx0 hsn hng hm1
      have hFl := hF.len
      have hLl : (Lst n (W.take i)).length ≤ 400 := by
        have : ∀ u : List Int, (Lst n u).length = u.length := fun u => by induction u with | nil => rfl | cons y u ih => simp [Lst, ih]
        rw [this, List.length_take]; omega
      obtain ⟨L, hL⟩ : ∃ L, Hid (Lst n (W.take i) = L) := ⟨_, Lib.hid rfl⟩
      obtain ⟨L2, hL2⟩ : ∃ L, Hid (Lst n (W.take (i + 1)) = L) := ⟨_, Lib.hid rfl⟩
      rw [hL.out] at hF hsn hFl hLl
      rw [hL2.out] at hsn
      obtain ⟨N, hN⟩ : ∃ N, Hid (ngs (W.take i) = N) := ⟨_, Lib.hid rfl⟩
      rw [hN.out] at hng ⊢
      have HSN := Lib.hid hsn
      have HNG := Lib.hid hng
      clear hsn hng
      have c1 : (i : Int) < (W.length : Int) := by omega
      have c2 : (0 : Int) ≤ (i : Int) := by omega
      have e1 : IntKind.i64.wrap ((i : Int) + 1) = (i : Int) + 1 := IntWalk.i64_in _ (by omega)
      obtain ⟨Av, cv, hv, hcv, hrv⟩ := Own.rd venc_len hF.out
      rw [hFl] at hv
      subst hv
      by_cases hpos : 0 < x
      · obtain ⟨k, hk⟩ : ∃ k : Nat, x = (k : Int) := ⟨x.toNat, by omega⟩
        subst hk
        have hk1 : 1 ≤ k := by omega
        have hkn : k < n := by have := hx0.2.2; omega
        have hbse : bse n (k : Int) = sg n k := by rw [bse_pos hpos, Int.toNat_natCast]
        have HL2 : Hid (L2 = L ++ [sg n k]) := Lib.hid (by have h := HSN.out; rw [if_pos hpos, hbse] at h; exact h)
        have HN2 : Hid (ngs (W.take (i + 1)) = N) := Lib.hid (by have h := HNG.out; unfold ng at h; rw [if_neg (by omega)] at h; simpa using h)
        clear HSN HNG hbse hx0
        have hS1 : wr.drew.cell? ⟨b, o + i, none⟩ = some (.int .i64 (k : Int)) := m0
        have hBD := (Below.refl wr.heap.size wr).drew
        have hFD := hF.below hBD
        go_wp2_with fail
        refine wp_region_J (fun w' => w'.cell? ⟨b, o + i, none⟩ = some (.int .i64 (k : Int))) (fun _ => True) (fun _ => false) (by kernel_rfl) ?_
        generalize wr.drew = wS at *
        have hzS := hBD.size
        refine wpAnyJ_take1 0 rfl (by kernel_rfl) (by kernel_rfl) rfl (by kernel_rfl) (fun _ _ _ h => h) (by first | kernel_rfl | rfl) hS1 (fun w' hSw => (by obtain z1 := hSw; go_simp; try (with_reducible rfl))) ?_
        try simp only [Act.put, List.getElem_toArray, List.getElem_cons_succ, List.getElem_cons_zero, List.setIfInBounds_toArray, List.set_cons_zero, List.set_cons_succ]
        refine wpAnyJ_take1 1 rfl (by kernel_rfl) (by kernel_rfl) rfl (by kernel_rfl) (fun _ _ _ h => h) (by first | kernel_rfl | rfl) hS1 (fun w' hSw => (by obtain z1 := hSw; go_simp; try (with_reducible rfl))) ?_
        try simp only [Act.put, List.getElem_toArray, List.getElem_cons_succ, List.getElem_cons_zero, List.setIfInBounds_toArray, List.set_cons_zero, List.set_cons_succ]
        refine wpAnyJ_take1 3 rfl (by kernel_rfl) (by kernel_rfl) rfl (by kernel_rfl) (fun _ _ _ h => h) (by first | kernel_rfl | rfl) hS1 (fun w' hSw => (by obtain z1 := hSw; go_simp; try (with_reducible rfl))) ?_
        try simp only [Act.put, List.getElem_toArray, List.getElem_cons_succ, List.getElem_cons_zero, List.setIfInBounds_toArray, List.set_cons_zero, List.set_cons_succ]
        refine wpAnyJ_take1 4 rfl (by kernel_rfl) (by kernel_rfl) rfl (by kernel_rfl) (fun _ _ _ h => h) (by first | kernel_rfl | rfl) hS1 (fun w' hSw => (by obtain z1 := hSw; go_simp; try (with_reducible rfl))) ?_
        try simp only [Act.put, List.getElem_toArray, List.getElem_cons_succ, List.getElem_cons_zero, List.setIfInBounds_toArray, List.set_cons_zero, List.set_cons_succ]
        refine wpAnyJ_take1 5 rfl (by kernel_rfl) (by kernel_rfl) rfl (by kernel_rfl) (fun _ _ _ h => h) (by first | kernel_rfl | rfl) hS1 (fun w' hSw => (by obtain z1 := hSw; go_simp; try (with_reducible rfl))) ?_
        try simp only [Act.put, List.getElem_toArray, List.getElem_cons_succ, List.getElem_cons_zero, List.setIfInBounds_toArray, List.set_cons_zero, List.set_cons_succ]
        refine wpAnyJ_take1 6 rfl (by kernel_rfl) (by kernel_rfl) rfl (by kernel_rfl) (fun _ _ _ h => h) (by first | kernel_rfl | rfl) hS1 (fun w' hSw => (by obtain z1 := hSw; go_simp; try (with_reducible rfl))) ?_
        try simp only [Act.put, List.getElem_toArray, List.getElem_cons_succ, List.getElem_cons_zero, List.setIfInBounds_toArray, List.set_cons_zero, List.set_cons_succ]
        refine wpAnyJ_ready [2] (by kernel_rfl) (by simp) (NextJ.cons rfl (fun K hK => ?_) NextJ.nil)
        go_simp
        refine (bline_any n (by omega) wS).mono ?_
        rintro e wa ⟨va, rfl, hOa, hBa⟩
        have hza := hBa.size
        have hSa : wa.cell? ⟨b, o + i, none⟩ = some (.int .i64 (k : Int)) := (hBa.cell (lt_of_cell hS1)).trans hS1
        go_simp
        refine hK.out _ _ hSa (fun _ => trivial) ?_
        clear hK K
        try simp only [Act.put, List.getElem_toArray, List.getElem_cons_succ, List.getElem_cons_zero, List.setIfInBounds_toArray, List.set_cons_zero, List.set_cons_succ]
        refine wpAnyJ_ready [7] (by kernel_rfl) (by simp) (NextJ.cons rfl (fun K hK => ?_) NextJ.nil)
        obtain ⟨Aa, ca, hva, hca, hra⟩ := Own.rd nenc_len hOa
        have hil := (perm_idl n).len
        rw [hil] at hva
        subst hva
        have HAF := bafter_any n Aa (idl n) ca k hk1 hkn wa wa.heap.size hra (Nat.le_refl _) (perm_idl n) (by omega)
        rw [hil] at HAF
        go_simp
        refine HAF.mono ?_
        rintro e wb ⟨vb, rfl, hOb, hBb⟩
        have hzb := hBb.size
        have hSb : wb.cell? ⟨b, o + i, none⟩ = some (.int .i64 (k : Int)) := (hBb.cell (lt_of_cell hSa)).trans hSa
        go_simp
        refine hK.out _ _ hSb (fun _ => trivial) ?_
        clear hK K
        try simp only [Act.put, List.getElem_toArray, List.getElem_cons_succ, List.getElem_cons_zero, List.setIfInBounds_toArray, List.set_cons_zero, List.set_cons_succ]
        obtain ⟨Ab, cb, hvb, hcb, hrb⟩ := Own.rd nenc_len hOb
        have hal := ((perm_idl n).aft hk1 hkn).len
        rw [show (aft (idl n) k).length = n from hal] at hvb
        subst hvb
        refine wpAnyJ_ready [8] (by kernel_rfl) (by simp) (NextJ.cons rfl (fun K hK => ?_) NextJ.nil)
        go_simp
        obtain ⟨wc, hwc⟩ : ∃ xx, Hid (wb.alloc (.cells #[.slice Ab n cb] 38) = xx) := ⟨_, Lib.hid rfl⟩
        have hBc : Below wb.heap.size wb wc := by rw [← hwc.out]; exact (Below.refl _ _).alloc (Nat.le_refl _) _
        have kc : Blk wc wb.heap.size 38 #[.slice Ab n cb] := by rw [← hwc.out]; exact Blk.new wb _ _
        have hzc := hBc.size
        have hSc : wc.cell? ⟨b, o + i, none⟩ = some (.int .i64 (k : Int)) := (hBc.cell (lt_of_cell hSb)).trans hSb
        rw [hwc.out]
        refine hK.out _ _ hSc (fun _ => trivial) ?_
        clear hK K
        try simp only [Act.put, List.getElem_toArray, List.getElem_cons_succ, List.getElem_cons_zero, List.setIfInBounds_toArray, List.set_cons_zero, List.set_cons_succ]
        have hBac := hBa.trans (hBb.mono hza)
        have hBSc := hBac.trans (hBc.mono (Nat.le_trans hza hzb))
        have hFc := hFD.below hBSc
        have hOc : Own 1 nenc wc w1.heap.size 3 (.slice Ab n cb) (sg n k) := Own.base (hOb.below hBc) (by omega)
        refine wpAnyJ_ready [9] (by kernel_rfl) (by simp) (NextJ.cons rfl (fun K hK => ?_) NextJ.nil)
        refine step_append_fac rfl _ _ _ rfl w1.heap.size _ j0 _ Try.underlying62 hj0 hy0' hy1' hy2' rfl (.slice Av L.length cv) vs (by kernel_rfl) hFc.out wb.heap.size Ab n cb (by kernel_rfl) (kc.cell 0 _ rfl) (by omega) (by omega) ?_
        intro v6 w6 ho6 hg6
        have hF6 := hFc.more hOc ho6 hg6
        have hBc6 : Below w1.heap.size w1 wc := hB.trans ((hBD.trans (hBSc.mono hzS)).mono hz)
        have hB6 : Below w1.heap.size w1 w6 := hFc.out.grown hBc6 hg6 hBc6.size
        have hS6 : w6.cell? ⟨b, o + i, none⟩ = some (.int .i64 (k : Int)) := (hB6.cell (p := ⟨b, o + i, none⟩) (by exact hlo)).trans hm1
        refine hK.out _ _ hS6 (fun _ => trivial) ?_
        clear hK K
        try simp only [Act.put, List.getElem_toArray, List.getElem_cons_succ, List.getElem_cons_zero, List.setIfInBounds_toArray, List.set_cons_zero, List.set_cons_succ]
        refine wpAnyJ_take1 10 rfl (by kernel_rfl) (by kernel_rfl) rfl (by kernel_rfl) (fun _ _ _ h => h) (by first | kernel_rfl | rfl) hS6 (fun w' hSw => (by obtain z1 := hSw; go_simp; try (with_reducible rfl))) ?_
        try simp only [Act.put, List.getElem_toArray, List.getElem_cons_succ, List.getElem_cons_zero, List.setIfInBounds_toArray, List.set_cons_zero, List.set_cons_succ]
        refine wpAnyJ_done (by kernel_rfl) ?_ _
        go_wp2_with fail
        go_roundw
        case rel => exact ⟨i + 1, vs ++ [.slice Ab n cb], by omega, by go_num, by rw [HN2.out], by rw [hL2.out, HL2.out]; exact hF6, hB6⟩
        case measure => simp [intOf]; omega
      · obtain ⟨k, hk⟩ : ∃ k : Nat, x = -(k : Int) := ⟨(-x).toNat, by have := hx0.1; omega⟩
        subst hk
        have hk1 : 1 ≤ k := by have := hx0.1; omega
        have hkn : k < n := by have := hx0.2.1; omega
        have hbse : bse n (-(k : Int)) = dl n k := by rw [bse_neg hpos]; congr 1; omega
        have HL2 : Hid (L2 = L.map (tur n) ++ [dl n k]) := Lib.hid (by have h := HSN.out; rw [if_neg hpos, hbse] at h; exact h)
        have HN2 : Hid (ngs (W.take (i + 1)) = N + 1) := Lib.hid (by have h := HNG.out; unfold ng at h; rw [if_pos (by omega)] at h; exact h)
        have hNb : N ≤ 400 := by
          have : ∀ u : List Int, ngs u ≤ u.length := fun u => by induction u with | nil => exact Nat.le_refl _ | cons y u ih => simp only [ngs, List.length_cons]; unfold ng; split <;> omega
          have h := this (W.take i); rw [hN.out, List.length_take] at h; omega
        have hPL : AllP n L := by rw [← hL.out]; exact lst_allP fun z hz => HIN.out z (List.mem_of_mem_take hz)
        have HPL := Lib.hid hPL
        clear HSN HNG hbse hx0 hPL
        have p1 : ¬ (0 : Int) < -(k : Int) := by omega
        have p2 : IntKind.i64.wrap (-(N : Int) - 1) = -(N : Int) - 1 := IntWalk.i64_in _ (by omega)
        have p3 : IntKind.i64.wrap (- -(k : Int)) = (k : Int) := by rw [IntWalk.i64_in _ (by omega)]; omega
        obtain ⟨M, hM⟩ : ∃ M : Nat → List (List Nat), Hid (∀ q, M q = (L.take q).map (tur n) ++ L.drop q) := ⟨_, Lib.hid fun _ => rfl⟩
        have hMl : ∀ q, q ≤ L.length → (M q).length = L.length := fun q hq => by rw [hM.out, List.length_append, List.length_map, List.length_take, List.length_drop]; omega
        have hM0 : M 0 = L := by rw [hM.out]; simp
        have hMe : M L.length = L.map (tur n) := by rw [hM.out]; simp
        have hF0 : FacW wr w1.heap.size (.slice Av L.length cv) vs (M 0) := by rw [hM0]; exact hF
        have HMl := Lib.hid hMl
        have HMe := Lib.hid hMe
        clear hMl hMe hM0
        go_wp2_with fail
        obtain ⟨wo, hwo⟩ : ∃ wo : World, wo = wr := ⟨_, rfl⟩
        obtain rfl := hwo
        go_loopw [11] (fun qv wr => ∃ (q : Nat) (vs' : List Value), q ≤ L.length ∧ qv = .int .i64 q ∧ FacW wr w1.heap.size (.slice Av L.length cv) vs' (M q) ∧ Below w1.heap.size w1 wr) (fun qv _ => L.length - (intOf qv).toNat)
        case atStart => exact ⟨0, vs, Nat.zero_le _, rfl, hF0, hB⟩
        case round =>
          obtain ⟨q, vs', hq, rfl, hF2, hB2⟩ := hrel
          have hz2 := hB2.size
          have hl2 := hF2.len
          rw [HMl.out q hq] at hl2
          by_cases hql : q < L.length
          · obtain ⟨g, cg, hvg⟩ := fac_g hF2 (by rw [HMl.out q hq]; omega)
            rw [hl2] at hvg
            cases hvg
            have hF2' := hF2
            rw [← hl2] at hF2'
            obtain ⟨hbg, lg, fz⟩ := fac_frz hF2' q
            obtain ⟨Ak, ck, h0, hrk⟩ := fac_at hF2 (k := q) (by rw [HMl.out q hq]; exact hql)
            have hMq : (M q)[q]'(by rw [HMl.out q hq]; exact hql) = L[q] := by
              have : (M q).getD q [] = L[q] := by
                rw [hM.out, List.getD_eq_getElem?_getD, List.getElem?_append_right (by rw [List.length_map, List.length_take]; omega)]
                rw [List.length_map, List.length_take, Nat.min_eq_left (by omega), Nat.sub_self, List.drop_eq_getElem_cons hql]; rfl
              rw [List.getD_eq_getElem?_getD, List.getElem?_eq_getElem (by rw [HMl.out q hq]; exact hql)] at this; exact this
            rw [hMq] at h0 hrk
            have hpq := HPL.out _ (List.getElem_mem hql)
            have hpl := hpq.len
            have hst := mapTake_set (f := tur n) hql
            rw [← hM.out, ← hM.out] at hst
            have hTU := bturned_any n Ak L[q] ck wr wr.heap.size hrk (Nat.le_refl _) hpq (by omega)
            have htl := hpq.tur.len
            obtain ⟨r, hr'⟩ : ∃ r, Hid (L[q] = r) := ⟨_, Lib.hid rfl⟩
            rw [hr'.out] at h0 hTU hst hpl htl
            rw [hpl] at h0 hTU
            have HTU := Lib.hid hTU
            have HST := Lib.hid hst
            clear hTU hst hMq
            have q1 : (q : Int) < (L.length : Int) := by omega
            have q2 : (0 : Int) ≤ (q : Int) := by omega
            have q3 : IntKind.i64.wrap ((q : Int) + 1) = (q : Int) + 1 := IntWalk.i64_in _ (by omega)
            go_wp2_with (first
              | (go_at_call 52; refine HTU.out.mono ?_; rintro e w5 ⟨v5, rfl, hO5, hB5⟩
                 obtain ⟨Ab, cb, hvb, hcb, hrb⟩ := Own.rd nenc_len hO5
                 rw [htl] at hvb
                 subst hvb
                 have hz5 := hB5.size
                 have hF5 := hF2'.below hB5
                 have h5 := (hB5.cell (p := ⟨g, q, none⟩) lg).trans h0
                 obtain ⟨_, lg5, fz5⟩ := fac_frz hF5 q)
              | fail)
            have hF6 := hF5.put (n := q) (by omega) rfl (Own.base hO5 (by omega))
            rw [HST.out, hl2] at hF6
            go_roundw
            case rel => exact ⟨q + 1, vs'.set q (.slice Ab n cb), by omega, by go_num, hF6, (hB2.trans (hB5.mono hz2)).setCell (by exact hbg) _⟩
            case measure => simp [intOf]; omega
          · have e0 : q = L.length := by omega
            subst e0
            rw [HMe.out] at hF2
            have q1 : ¬ (L.length : Int) < (L.length : Int) := by omega
            have hrr := (hr.below' (hB1.trans (hB2.mono hz1)) hH)
            obtain ⟨_, _, hA7, _, m7⟩ := hrr.int hlt
            cases hA7
            rw [hx.out] at m7
            have l7 := lt_of_cell m7
            have HWO := Lib.hid (bwithout_any n k hk1 hkn (by omega) wr)
            go_wp2_with (first
              | (go_at_call 53; refine HWO.out.mono ?_; rintro e w5 ⟨v5, rfl, hO5, hB5⟩
                 have hz5 := hB5.size
                 obtain ⟨Ab, cb, hvb, hcb, hrb⟩ := Own.rd nenc_len hO5
                 rw [show (dl n k).length = n from (perm_dl hk1 hkn).len] at hvb
                 subst hvb
                 have hF5 := hF2.below hB5)
              | (at_builtin; refine wpList_append_fac rfl (.tmp 62) (.tmp 70) _ rfl w1.heap.size _ j0 _ Try.underlying62 hj0 hy0' hy1' hy2' rfl (.slice Av L.length cv) vs' (by kernel_rfl) (hF5.out.alloc _) w5.heap.size Ab n cb (by kernel_rfl) (cell_new rfl) (by omega) (by simp; omega) ?_; intro v6 w6 ho6 hg6)
              | fail)
            have hF6 := (hF5.alloc (.cells #[.slice Ab n cb] 38)).more (Own.base (hO5.alloc _) (by omega)) ho6 hg6
            have hB6 : Below w1.heap.size w1 w6 := (hF5.out.alloc (.cells #[.slice Ab n cb] 38)).grown ((hB2.trans (hB5.mono hz2)).alloc (by omega) _) hg6 (by simp; omega)
            go_roundw
            case rel => exact ⟨i + 1, vs' ++ [.slice Ab n cb], by omega, by go_num, by rw [HN2.out]; congr 1; omega, by rw [hL2.out, HL2.out]; exact hF6, hB6⟩
            case measure => simp [intOf]; omega
    · have e0 : i = W.length := by omega
      have htk : W.take i = W := by rw [e0]; exact List.take_length
      rw [htk] at hF ⊢
      have hFl := hF.len
      have hL0 := lst_length n W
      have hPA : AllP n (Lst n W) := lst_allP HIN.out
      have HPA := Lib.hid hPA
      clear hPA
      obtain ⟨L0, hL0e⟩ : ∃ L, Hid (Lst n W = L) := ⟨_, Lib.hid rfl⟩
      rw [hL0e.out] at hF hFl hL0 HPA
      obtain ⟨N, hN⟩ : ∃ N, Hid (ngs W = N) := ⟨_, Lib.hid rfl⟩
      rw [hN.out]
      obtain ⟨Av, cv, hv, hcv, hrv⟩ := Own.rd venc_len hF.out
      rw [hFl] at hv
      subst hv
      have c1 : ¬ (i : Int) < (W.length : Int) := by omega
      have hLb : L0.length ≤ 400 := by omega
      have HL0 := Lib.hid hL0
      clear hL0 e0 htk hFl hcv hrv
      go_wp2_with fail
      obtain ⟨wo, hwo⟩ : ∃ wo : World, wo = wr := ⟨_, rfl⟩
      obtain rfl := hwo
      go_loopg [12, 13, 14, 15, 16] (mu n L0 + 1) (fun gk cv' _ _ _ _ wr => ∃ (L : List (List Nat)) (vs : List Value) (ch : Bool), cv' = .bool ch ∧ L.length = L0.length ∧ FacW wr w1.heap.size (.slice Av L0.length cv) vs L ∧ Hid (Rt (Brd.Step n) L0 L) ∧ Hid (ch = false → Still n L) ∧ Hid (mu n L + (if ch then 1 else 0) ≤ gk) ∧ Below w1.heap.size w1 wr)
      case atStart => exact ⟨L0, vs, true, rfl, rfl, hF, Lib.hid (.refl _), Lib.hid (fun h => by cases h), Lib.hid (by simp), hB⟩
      case round =>
        obtain ⟨L, vs, ch, rfl, hLl, hF, hrt, hst, hgk, hB⟩ := hrel
        have hz := hB.size
        cases ch with
        | true =>
          have HLL := Lib.hid hLl
          have e1 : IntKind.i64.wrap ((L0.length : Int) - 1) = (L0.length : Int) - 1 := IntWalk.i64_in _ (by omega)
          clear hLl
          go_wp2_with fail
          obtain ⟨wo, hwo⟩ : ∃ wo : World, wo = wr := ⟨_, rfl⟩
          obtain rfl := hwo
          go_loopw [12, 13, 14, 15, 16] (fun cv' kv _ _ _ wr => ∃ (k : Nat) (L' : List (List Nat)) (vs' : List Value) (ch' : Bool), k ≤ L0.length ∧ kv = .int .i64 ((k : Int) - 1) ∧ cv' = .bool ch' ∧ Hid (L'.length = L0.length) ∧ FacW wr w1.heap.size (.slice Av L0.length cv) vs' L' ∧ Hid (Rt (Brd.Step n) L L') ∧ Hid (ch' = false → L' = L ∧ ∀ j, k ≤ j + 1 → j + 1 < L0.length → PStill n (L.getD j []) (L.getD (j + 1) [])) ∧ Hid (ch' = true → mu n L' < mu n L) ∧ Below w1.heap.size w1 wr) (fun _ kv _ _ _ _ => (intOf kv + 1).toNat)
          case atStart => exact ⟨L0.length, L, vs, false, Nat.le_refl _, rfl, rfl, HLL, hF, Lib.hid (.refl _), Lib.hid (fun _ => ⟨rfl, fun j h1 h2 => by omega⟩), Lib.hid (fun h => by cases h), hB⟩
          case round =>
            obtain ⟨k, L', vs', ch', hk, rfl, rfl, hLl', hF', hrt', hcf, hct, hB'⟩ := hrel
            have hz' := hB'.size
            by_cases hk2 : 2 ≤ k
            · obtain ⟨j, rfl⟩ : ∃ j, k = j + 2 := ⟨k - 2, by omega⟩
              have q0 : (0 : Int) < ((j + 2 : Nat) : Int) - 1 := by omega
              have hl' := hLl'.out
              have hvl := hF'.len
              rw [hl'] at hvl
              obtain ⟨g, cg, hvg⟩ := fac_g hF' (by omega)
              rw [hvl] at hvg
              cases hvg
              have hPL' : AllP n L' := rt_allP HPA.out (hrt.out.trans hrt'.out)
              have ga : L'.getD j [] = L'[j] := getD_at (by omega)
              have gb : L'.getD (j + 1) [] = L'[j + 1] := getD_at (by omega)
              have pa := hPL' _ (List.getElem_mem (show j < L'.length by omega))
              have pb := hPL' _ (List.getElem_mem (show j + 1 < L'.length by omega))
              have oa := hF'.inn j (by omega)
              have ob := hF'.inn (j + 1) (by omega)
              rw [ga] at oa
              rw [gb] at ob
              obtain ⟨Aa, ca, hva, _, _⟩ := Own.rd nenc_len oa
              obtain ⟨Ab, cb, hvb, _, _⟩ := Own.rd nenc_len ob
              have hF2 := hF'
              rw [← hvl] at hF2
              obtain ⟨hbg, lg, fz0⟩ := fac_frz hF2 j
              obtain ⟨_, _, fz1⟩ := fac_frz hF2 (j + 1)
              have h0 : wr.cell? ⟨g, j, none⟩ = some (.slice Aa L'[j].length ca) := by
                obtain ⟨A9, c9, e9, _, hr9⟩ := Own.rd venc_len hF2.out
                injection e9 with e9 _ _
                obtain ⟨b9, o9, e8, _, hc9⟩ := hr9 (fun e => by rw [e] at hvl; simp at hvl; omega)
                rw [← e9] at e8
                injection e8 with e8
                injection e8 with e6 e7 _
                subst e6; subst e7
                have := hc9 j _ (List.getElem?_eq_getElem (show j < vs'.length by omega)) 0 _ rfl
                rw [hva] at this
                simpa using this
              have h1 : wr.cell? ⟨g, j + 1, none⟩ = some (.slice Ab L'[j + 1].length cb) := by
                obtain ⟨A9, c9, e9, _, hr9⟩ := Own.rd venc_len hF2.out
                injection e9 with e9 _ _
                obtain ⟨b9, o9, e8, _, hc9⟩ := hr9 (fun e => by rw [e] at hvl; simp at hvl; omega)
                rw [← e9] at e8
                injection e8 with e8
                injection e8 with e6 e7 _
                subst e6; subst e7
                have := hc9 (j + 1) _ (List.getElem?_eq_getElem (show j + 1 < vs'.length by omega)) 0 _ rfl
                rw [hvb] at this
                simpa using this
              rw [hva] at oa
              rw [hvb] at ob
              rw [pa.len] at h0 oa
              rw [pb.len] at h1 ob
              have hS1 : wr.drew.cell? ⟨g, j, none⟩ = some (.slice Aa n ca) ∧ wr.drew.cell? ⟨g, j + 1, none⟩ = some (.slice Ab n cb) := ⟨h0, h1⟩
              have hBD := (Below.refl wr.heap.size wr).drew
              have HSL := Lib.hid (bslid_any n h1n (by omega) (.slice Aa n ca) (.slice Ab n cb) L'[j] L'[j + 1] wr.drew w1.heap.size (oa.below hBD) (ob.below hBD) (by have := hBD.size; omega) pa pb)
              have q1 : IntKind.i64.wrap (((j + 2 : Nat) : Int) - 1 - 1) = (j : Int) := by rw [IntWalk.i64_in _ (by omega)]; omega
              have q2 : ((j + 2 : Nat) : Int) - 1 = ((j + 1 : Nat) : Int) := by omega
              rw [q2] at q1 q0 ⊢
              have q3 : (0 : Int) ≤ (j : Int) := by omega
              have q4 : (j : Int) < (L0.length : Int) := by omega
              have q5 : (0 : Int) ≤ ((j + 1 : Nat) : Int) := by omega
              have q6 : ((j + 1 : Nat) : Int) < (L0.length : Int) := by omega
              have Q2 := Lib.hid q2
              clear q2
              obtain ⟨jj, hjj⟩ : ∃ jj : Nat, Hid (j + 1 = jj) := ⟨_, Lib.hid rfl⟩
              rw [hjj.out] at q0 q1 q5 q6 hS1 ⊢
              go_wp2_with fail
              refine wp_region_J (fun w' => w'.cell? ⟨g, j, none⟩ = some (.slice Aa n ca) ∧ w'.cell? ⟨g, jj, none⟩ = some (.slice Ab n cb)) (fun _ => True) (fun _ => false) (by kernel_rfl) ?_
              generalize wr.drew = wS at *
              have hzS := hBD.size
              refine wpAnyJ_take1 0 rfl (by kernel_rfl) (by kernel_rfl) rfl (by kernel_rfl) (fun _ _ _ h => h) (by first | kernel_rfl | rfl) hS1 (fun w' hSw => (by obtain ⟨z1, z2⟩ := hSw; go_simp; try (with_reducible rfl))) ?_
              try simp only [Act.put, List.getElem_toArray, List.getElem_cons_succ, List.getElem_cons_zero, List.setIfInBounds_toArray, List.set_cons_zero, List.set_cons_succ]
              refine wpAnyJ_take1 1 rfl (by kernel_rfl) (by kernel_rfl) rfl (by kernel_rfl) (fun _ _ _ h => h) (by first | kernel_rfl | rfl) hS1 (fun w' hSw => (by obtain ⟨z1, z2⟩ := hSw; go_simp; try (with_reducible rfl))) ?_
              try simp only [Act.put, List.getElem_toArray, List.getElem_cons_succ, List.getElem_cons_zero, List.setIfInBounds_toArray, List.set_cons_zero, List.set_cons_succ]
              refine wpAnyJ_take1 2 rfl (by kernel_rfl) (by kernel_rfl) rfl (by kernel_rfl) (fun _ _ _ h => h) (by first | kernel_rfl | rfl) hS1 (fun w' hSw => (by obtain ⟨z1, z2⟩ := hSw; go_simp; try (with_reducible rfl))) ?_
              try simp only [Act.put, List.getElem_toArray, List.getElem_cons_succ, List.getElem_cons_zero, List.setIfInBounds_toArray, List.set_cons_zero, List.set_cons_succ]
              refine wpAnyJ_take1 3 rfl (by kernel_rfl) (by kernel_rfl) rfl (by kernel_rfl) (fun _ _ _ h => h) (by first | kernel_rfl | rfl) hS1 (fun w' hSw => (by obtain ⟨z1, z2⟩ := hSw; go_simp; try (with_reducible rfl))) ?_
              try simp only [Act.put, List.getElem_toArray, List.getElem_cons_succ, List.getElem_cons_zero, List.setIfInBounds_toArray, List.set_cons_zero, List.set_cons_succ]
              refine wpAnyJ_take1 4 rfl (by kernel_rfl) (by kernel_rfl) rfl (by kernel_rfl) (fun _ _ _ h => h) (by first | kernel_rfl | rfl) hS1 (fun w' hSw => (by obtain ⟨z1, z2⟩ := hSw; go_simp; try (with_reducible rfl))) ?_
              try simp only [Act.put, List.getElem_toArray, List.getElem_cons_succ, List.getElem_cons_zero, List.setIfInBounds_toArray, List.set_cons_zero, List.set_cons_succ]
              refine wpAnyJ_take1 5 rfl (by kernel_rfl) (by kernel_rfl) rfl (by kernel_rfl) (fun _ _ _ h => h) (by first | kernel_rfl | rfl) hS1 (fun w' hSw => (by obtain ⟨z1, z2⟩ := hSw; go_simp; try (with_reducible rfl))) ?_
              try simp only [Act.put, List.getElem_toArray, List.getElem_cons_succ, List.getElem_cons_zero, List.setIfInBounds_toArray, List.set_cons_zero, List.set_cons_succ]
              refine wpAnyJ_take1 6 rfl (by kernel_rfl) (by kernel_rfl) rfl (by kernel_rfl) (fun _ _ _ h => h) (by first | kernel_rfl | rfl) hS1 (fun w' hSw => (by obtain ⟨z1, z2⟩ := hSw; go_simp; try (with_reducible rfl))) ?_
              try simp only [Act.put, List.getElem_toArray, List.getElem_cons_succ, List.getElem_cons_zero, List.setIfInBounds_toArray, List.set_cons_zero, List.set_cons_succ]
              refine wpAnyJ_take1 7 rfl (by kernel_rfl) (by kernel_rfl) rfl (by kernel_rfl) (fun _ _ _ h => h) (by first | kernel_rfl | rfl) hS1 (fun w' hSw => (by obtain ⟨z1, z2⟩ := hSw; go_simp; try (with_reducible rfl))) ?_
              try simp only [Act.put, List.getElem_toArray, List.getElem_cons_succ, List.getElem_cons_zero, List.setIfInBounds_toArray, List.set_cons_zero, List.set_cons_succ]
              refine wpAnyJ_take1 8 rfl (by kernel_rfl) (by kernel_rfl) rfl (by kernel_rfl) (fun _ _ _ h => h) (by first | kernel_rfl | rfl) hS1 (fun w' hSw => (by obtain ⟨z1, z2⟩ := hSw; go_simp; try (with_reducible rfl))) ?_
              try simp only [Act.put, List.getElem_toArray, List.getElem_cons_succ, List.getElem_cons_zero, List.setIfInBounds_toArray, List.set_cons_zero, List.set_cons_succ]
              refine wpAnyJ_ready [9] (by kernel_rfl) (by simp) (NextJ.cons rfl (fun K hK => ?_) NextJ.nil)
              go_simp
              refine HSL.out.mono ?_
              rintro e we ⟨va', vb', a', b', c2, rfl, oa', ob', hrt2, hps, hcf2, hct2, hBe⟩
              have hze := hBe.size
              obtain ⟨pa', pb'⟩ := rt_two_perm pa pb hrt2
              obtain ⟨Aa', ca', hva', _, _⟩ := Own.rd nenc_len oa'
              obtain ⟨Ab', cb', hvb', _, _⟩ := Own.rd nenc_len ob'
              rw [pa'.len] at hva'
              rw [pb'.len] at hvb'
              subst hva' hvb'
              have hSe : we.cell? ⟨g, j, none⟩ = some (.slice Aa n ca) ∧ we.cell? ⟨g, jj, none⟩ = some (.slice Ab n cb) := ⟨(hBe.cell (lt_of_cell hS1.1)).trans hS1.1, (hBe.cell (lt_of_cell hS1.2)).trans hS1.2⟩
              have HRT2 := Lib.hid hrt2
              have HPS := Lib.hid hps
              have HCF2 := Lib.hid hcf2
              have HCT2 := Lib.hid hct2
              clear hrt2 hps hcf2 hct2
              go_simp
              refine hK.out _ _ hSe (fun _ => trivial) ?_
              clear hK K
              try simp only [Act.put, List.getElem_toArray, List.getElem_cons_succ, List.getElem_cons_zero, List.setIfInBounds_toArray, List.set_cons_zero, List.set_cons_succ]
              refine wpAnyJ_take1 10 rfl (by kernel_rfl) (by kernel_rfl) rfl (by kernel_rfl) (fun _ _ _ h => h) (by first | kernel_rfl | rfl) hSe (fun w' hSw => (by obtain ⟨z1, z2⟩ := hSw; go_simp; try (with_reducible rfl))) ?_
              try simp only [Act.put, List.getElem_toArray, List.getElem_cons_succ, List.getElem_cons_zero, List.setIfInBounds_toArray, List.set_cons_zero, List.set_cons_succ]
              refine wpAnyJ_take1 11 rfl (by kernel_rfl) (by kernel_rfl) rfl (by kernel_rfl) (fun _ _ _ h => h) (by first | kernel_rfl | rfl) hSe (fun w' hSw => (by obtain ⟨z1, z2⟩ := hSw; go_simp; try (with_reducible rfl))) ?_
              try simp only [Act.put, List.getElem_toArray, List.getElem_cons_succ, List.getElem_cons_zero, List.setIfInBounds_toArray, List.set_cons_zero, List.set_cons_succ]
              refine wpAnyJ_take1 12 rfl (by kernel_rfl) (by kernel_rfl) rfl (by kernel_rfl) (fun _ _ _ h => h) (by first | kernel_rfl | rfl) hSe (fun w' hSw => (by obtain ⟨z1, z2⟩ := hSw; go_simp; try (with_reducible rfl))) ?_
              try simp only [Act.put, List.getElem_toArray, List.getElem_cons_succ, List.getElem_cons_zero, List.setIfInBounds_toArray, List.set_cons_zero, List.set_cons_succ]
              refine wpAnyJ_take1 13 rfl (by kernel_rfl) (by kernel_rfl) rfl (by kernel_rfl) (fun _ _ _ h => h) (by first | kernel_rfl | rfl) hSe (fun w' hSw => (by obtain ⟨z1, z2⟩ := hSw; go_simp; try (with_reducible rfl))) ?_
              try simp only [Act.put, List.getElem_toArray, List.getElem_cons_succ, List.getElem_cons_zero, List.setIfInBounds_toArray, List.set_cons_zero, List.set_cons_succ]
              refine wpAnyJ_take1 14 rfl (by kernel_rfl) (by kernel_rfl) rfl (by kernel_rfl) (fun _ _ _ h => h) (by first | kernel_rfl | rfl) hSe (fun w' hSw => (by obtain ⟨z1, z2⟩ := hSw; go_simp; try (with_reducible rfl))) ?_
              try simp only [Act.put, List.getElem_toArray, List.getElem_cons_succ, List.getElem_cons_zero, List.setIfInBounds_toArray, List.set_cons_zero, List.set_cons_succ]
              refine wpAnyJ_take1 15 rfl (by kernel_rfl) (by kernel_rfl) rfl (by kernel_rfl) (fun _ _ _ h => h) (by first | kernel_rfl | rfl) hSe (fun w' hSw => (by obtain ⟨z1, z2⟩ := hSw; go_simp; try (with_reducible rfl))) ?_
              try simp only [Act.put, List.getElem_toArray, List.getElem_cons_succ, List.getElem_cons_zero, List.setIfInBounds_toArray, List.set_cons_zero, List.set_cons_succ]
              refine wpAnyJ_take1 16 rfl (by kernel_rfl) (by kernel_rfl) rfl (by kernel_rfl) (fun _ _ _ h => h) (by first | kernel_rfl | rfl) hSe (fun w' hSw => (by obtain ⟨z1, z2⟩ := hSw; go_simp; try (with_reducible rfl))) ?_
              try simp only [Act.put, List.getElem_toArray, List.getElem_cons_succ, List.getElem_cons_zero, List.setIfInBounds_toArray, List.set_cons_zero, List.set_cons_succ]
              refine wpAnyJ_done (by kernel_rfl) ?_ _
              have hBwe := hBD.trans (hBe.mono hzS)
              have hzwe := hBwe.size
              have hFe := hF2.below hBwe
              obtain ⟨_, lge, fe0⟩ := fac_frz hFe j
              have q7 : IntKind.i64.wrap ((jj : Int) - 1) = (jj : Int) - 1 := IntWalk.i64_in _ (by have := hjj.out; omega)
              have hFp := hFe.put (n := j) (by omega) rfl oa'
              have obp : Own 1 nenc (we.setCell ⟨g, j, none⟩ (.slice Aa' n ca')) w1.heap.size 3 (.slice Ab' n cb') b' := fac_keep hFe rfl ob' j
              have hFp2 := fac_len (m := (vs'.set j (.slice Aa' n ca')).length) hFp (by simp)
              obtain ⟨_, lgp, fp1⟩ := fac_frz hFp2 jj
              obtain ⟨_, _, cp1, _⟩ := fac_at hFp2 (k := jj) (by have := hjj.out; rw [List.length_set]; omega)
              have hFq := hFp2.put (n := jj) (by have := hjj.out; rw [List.length_set]; omega) rfl obp
              have hFq2 := fac_len (m := L0.length) hFq (by simp; omega)
              have hBq : Below w1.heap.size w1 ((we.setCell ⟨g, j, none⟩ (.slice Aa' n ca')).setCell ⟨g, jj, none⟩ (.slice Ab' n cb')) := ((hB'.trans (hBwe.mono hz')).setCell (by exact hbg) _).setCell (by exact hbg) _
              have hRS : Rt (Brd.Step n) L' ((L'.set j a').set jj b') := by
                rw [← hjj.out]
                refine rt_set (by omega) ?_
                rw [ga, gb]
                exact HRT2.out
              have hmu := rt_mu hPL' hRS
              have hl2 : ((L'.set j a').set jj b').length = L0.length := by simp [hl']
              have HRS := Lib.hid hRS
              have HMU := Lib.hid hmu
              have HL2 := Lib.hid hl2
              have HGA := Lib.hid ga
              have HGB := Lib.hid gb
              clear hRS hmu hl2 ga gb hFp hFe h0 h1
              cases ch' with
              | true =>
                go_wp2_with fail
                go_roundw
                case rel => exact ⟨jj, _, _, true, by have := hjj.out; omega, congrArg (Value.int .i64) (by have := hjj.out; omega), rfl, HL2, hFq2, Lib.hid (hrt'.out.trans HRS.out), Lib.hid (fun h => by cases h), Lib.hid (fun _ => by have := hct.out rfl; rcases HMU.out with e | e; rw [e]; exact this; omega), hBq⟩
                case measure => have := hjj.out; simp [intOf]; omega
              | false =>
                obtain ⟨hLL', hpr⟩ := hcf.out rfl
                have HLL2 := Lib.hid hLL'
                have HPR := Lib.hid hpr
                clear hLL' hpr
                cases c2 with
                | true =>
                  go_wp2_with fail
                  go_roundw
                  case rel => exact ⟨jj, _, _, true, by have := hjj.out; omega, congrArg (Value.int .i64) (by have := hjj.out; omega), rfl, HL2, hFq2, Lib.hid (hrt'.out.trans HRS.out), Lib.hid (fun h => by cases h), Lib.hid (fun _ => by
                    have hlt := HCT2.out rfl
                    rcases HMU.out with e | e
                    · exfalso
                      have hj' : jj < L'.length := by have := hjj.out; omega
                      have e1 : ((L'.set j a').set jj b').getD j [] = L'.getD j [] := by rw [e]
                      have e2 : ((L'.set j a').set jj b').getD jj [] = L'.getD jj [] := by rw [e]
                      rw [List.getD_eq_getElem?_getD, List.getElem?_set_ne (by have := hjj.out; omega), List.getElem?_set_self (by omega)] at e1
                      rw [List.getD_eq_getElem?_getD, List.getElem?_set_self (by rw [List.length_set]; exact hj')] at e2
                      simp only [Option.getD_some] at e1 e2
                      rw [HGA.out] at e1
                      rw [← hjj.out, HGB.out] at e2
                      rw [e1, e2] at hlt; omega
                    · have e3 : mu n L' = mu n L := by rw [HLL2.out]
                      omega), hBq⟩
                  case measure => have := hjj.out; simp [intOf]; omega
                | false =>
                  go_wp2_with fail
                  go_roundw
                  case rel => exact ⟨jj, _, _, false, by have := hjj.out; omega, congrArg (Value.int .i64) (by have := hjj.out; omega), rfl, HL2, hFq2, Lib.hid (hrt'.out.trans HRS.out), Lib.hid (fun _ => by
                    obtain ⟨e1, e2⟩ := HCF2.out rfl
                    have hs := set_same2 (L := L') (j := j) (by omega)
                    have hs2 : (L'.set j a').set jj b' = L' := by rw [e1, e2, ← hjj.out, ← HGA.out, ← HGB.out]; exact hs
                    refine ⟨hs2.trans HLL2.out, fun q h1 h2 => ?_⟩
                    by_cases e : q = j
                    · subst e
                      rw [← HLL2.out, HGA.out, HGB.out, ← e1, ← e2]; exact HPS.out
                    · exact HPR.out q (by have := hjj.out; omega) h2), Lib.hid (fun h => by cases h), hBq⟩
                  case measure => have := hjj.out; simp [intOf]; omega
            · have q0 : ¬ (0 : Int) < (k : Int) - 1 := by omega
              go_wp2_with fail
              go_roundg (gk - 1)
              case rel => exact ⟨L', vs', ch', rfl, hLl'.out, hF', Lib.hid (hrt.out.trans hrt'.out), Lib.hid (fun h => by
                  obtain ⟨h1, h2⟩ := hcf.out h
                  rw [h1]
                  exact still_of fun j hj => h2 j (by omega) (by rw [← HLL.out]; exact hj)), Lib.hid (by
                  have h0 := hgk.out
                  simp only [if_true] at h0
                  cases ch' with
                  | true => have := hct.out rfl; simp; omega
                  | false => rw [(hcf.out rfl).1]; simp; omega), hB'⟩
              case measure => have h0 := hgk.out; simp only [if_true] at h0; omega
        | false =>
          have hS := hst.out rfl
          have hPL := Lib.hid (rt_allP HPA.out hrt.out)
          obtain ⟨Av', cv', hvv, _, hRG⟩ := hF.rd
          rw [hLl] at hvv
          have hv1 : Av' = Av := by injection hvv with e1 _ _; exact e1.symm
          have HVV := Lib.hid hvv
          clear hvv
          subst hv1
          have HS := Lib.hid hS
          clear hS
          have hLb2 : L.length ≤ 400 := by omega
          have hFN : Hid (Fin_ n W (post n (-(N : Int)) [] L)) := Lib.hid ⟨L, ⟨by rw [hL0e.out]; exact hrt.out, HS.out⟩, by rw [hN.out]⟩
          have hNb : N ≤ 400 := by
            have : ∀ u : List Int, ngs u ≤ u.length := fun u => by induction u with | nil => exact Nat.le_refl _ | cons y u ih => simp only [ngs, List.length_cons]; unfold ng; split <;> omega
            have h := this W; rw [hN.out] at h; omega
          have HLl := Lib.hid hLl
          clear hLl
          go_wp2_with fail
          obtain ⟨wo, hwo⟩ : ∃ wo : World, wo = wr := ⟨_, rfl⟩
          obtain rfl := hwo
          go_loopw [8, 17, 18] (fun pv ov kv wr => ∃ (k : Nat) (pw : Int) (out : List (List Nat)) (vals : List Value), k ≤ L.length ∧ kv = .int .i64 k ∧ pv = .int .i64 pw ∧ Hid (post n (-(N : Int)) [] (L.take k) = (pw, out)) ∧ out.length ≤ k ∧ -400 ≤ pw ∧ pw ≤ k ∧ vals.length = out.length ∧ Own 1 venc wr wo.heap.size 38 ov vals ∧ Hid (∀ q (h : q < vals.length), ∃ Ak ck, vals[q] = .slice Ak (out.getD q []).length ck ∧ Rd 1 nenc wo wo.heap.size Ak (out.getD q [])) ∧ Hid (∀ r ∈ out, r.length ≤ 1000) ∧ Below wo.heap.size wo wr) (fun _ _ kv _ => L.length - (intOf kv).toNat)
          case atStart => exact ⟨0, -(N : Int), [], [], Nat.zero_le _, rfl, rfl, Lib.hid rfl, by simp, by omega, by omega, rfl, Own.nil _ _ _, Lib.hid (fun q h => absurd h (by simp)), Lib.hid (by simp), Below.refl _ _⟩
          case round =>
            obtain ⟨k, pw, out, vals, hk, rfl, rfl, hpo, hol, hp1, hp2, hvo, hown, hvals, hrl, hB'⟩ := hrel
            have hz' := hB'.size
            obtain ⟨Ao, co, hvv, hco, hro⟩ := Own.rd venc_len hown
            subst hvv
            by_cases hlt : k < L.length
            · have hgk2 := getD_at hlt
              obtain ⟨b, o, hA9, hb9, Ak, ck, h0, hrk⟩ := rowB hRG hlt
              subst hA9
              have h0' := (hB'.cell (p := ⟨b, o + k, none⟩) hb9).trans h0
              have lb9 := lt_of_cell h0'
              have hrk' := hrk.below' hB' (Nat.le_refl _)
              have hpk := hPL.out _ (List.getElem_mem hlt)
              have hpl := hpk.len
              have hst2 : post n (-(N : Int)) [] (L.take (k + 1)) = post n pw out [L[k]] := by rw [take_snoc _ k hlt, post_app, hpo.out]
              rw [post_cons] at hst2
              obtain ⟨r, hr'⟩ : ∃ r, Hid (L[k] = r) := ⟨_, Lib.hid rfl⟩
              rw [hr'.out] at h0' hrk' hpk hpl hst2 hrk
              have HFD := Lib.hid (fun Wd (hBW : Below wr.heap.size wr Wd) => bflat_any n Ak r ck (-1) (.inr rfl) (decide (r = delta n)) (Lib.hid (flatD_iff hpk)) Wd wr.heap.size ((hrk'.more hz').below' hBW (Nat.le_refl _)) hBW.size hpk (by omega))
              have HFI := Lib.hid (fun Wd (hBW : Below wr.heap.size wr Wd) => bflat_any n Ak r ck 1 (.inl rfl) (decide (r = idl n)) (Lib.hid (flatI_iff hpk)) Wd wr.heap.size ((hrk'.more hz').below' hBW (Nat.le_refl _)) hBW.size hpk (by omega))
              have q1 : (k : Int) < (L0.length : Int) := by have := HLl.out; omega
              have q2 : (0 : Int) ≤ (k : Int) := by omega
              have q3 : IntKind.i64.wrap ((k : Int) + 1) = (k : Int) + 1 := IntWalk.i64_in _ (by omega)
              have q4 : IntKind.i64.wrap (pw + 1) = pw + 1 := IntWalk.i64_in _ (by omega)
              have q5 : (1 : Int) < (n : Int) := by omega
              have HST2 := Lib.hid hst2
              have HPK := Lib.hid hpk
              have HPLn := Lib.hid hpl
              clear hst2 hpk hpl hgk2
              by_cases hD : out = [] ∧ r = delta n
              · obtain ⟨rfl, hd⟩ := hD
                have hvn : vals = [] := List.eq_nil_of_length_eq_zero hvo
                subst hvn
                have hs := HST2.out
                rw [if_pos ⟨rfl, h1n, hd⟩] at hs
                have HS2 := Lib.hid hs
                have dd : decide (r = delta n) = true := decide_eq_true hd
                rw [dd] at HFD
                have HD := Lib.hid hd
                clear hs dd hd
                go_wp2_with (first
                  | (go_at_call 55; refine (HFD.out wr (Below.refl _ _)).mono ?_; rintro e w5 ⟨rfl, hB5⟩; clear HFD
                     have h05 := (hB5.cell (p := ⟨b, o + k, none⟩) lb9).trans h0'
                     have lb5 := lt_of_cell h05)
                  | fail)
                go_roundw
                case rel => exact ⟨k + 1, pw + 1, [], [], by omega, by go_num, rfl, Lib.hid (by rw [HS2.out]; rfl), by simp, by omega, by omega, rfl, hown.below hB5, hvals, hrl, hB'.trans (hB5.mono hz')⟩
                case measure => simp [intOf]; omega
              · have hs := HST2.out
                rw [if_neg (fun h => hD ⟨h.1, h.2.2⟩)] at hs
                by_cases hI : r = idl n
                · rw [if_pos hI] at hs
                  have HS2 := Lib.hid hs
                  have dd2 : decide (r = idl n) = true := decide_eq_true hI
                  rw [dd2] at HFI
                  have HI := Lib.hid hI
                  clear hs dd2 hI
                  by_cases hE : out = []
                  · have hd : ¬ r = delta n := fun h => hD ⟨hE, h⟩
                    have dd : decide (r = delta n) = false := decide_eq_false hd
                    rw [dd] at HFD
                    have z1 : ((vals.length : Int) == 0) = true := by rw [hvo, hE]; rfl
                    have HD := Lib.hid hd
                    clear dd hd
                    have HE := Lib.hid hE
                    have HVO := Lib.hid hvo
                    have hvb : vals.length ≤ 400 := by omega
                    clear hE hD hvo
                    go_wp2_with (first
                      | (go_at_call 55; refine (HFD.out wr (Below.refl _ _)).mono ?_; rintro e w5 ⟨rfl, hB5⟩; clear HFD
                         have h05 := (hB5.cell (p := ⟨b, o + k, none⟩) lb9).trans h0'
                         have lb5 := lt_of_cell h05)
                      | (go_at_call 55; refine (HFI.out w5 hB5).mono ?_; rintro e w6 ⟨rfl, hB6⟩; clear HFI)
                      | fail)
                    go_roundw
                    case rel => exact ⟨k + 1, pw, out, vals, by omega, by go_num, rfl, Lib.hid (by rw [HS2.out]; rfl), by omega, by omega, by omega, HVO.out, hown.below (hB5.trans (hB6.mono hB5.size)), hvals, hrl, hB'.trans ((hB5.trans (hB6.mono hB5.size)).mono hz')⟩
                    case measure => simp [intOf]; omega
                  · have z1 : ((vals.length : Int) == 0) = false := by rw [beq_eq_false_iff_ne, hvo]; have := List.length_pos_iff.2 hE; omega
                    have HE := Lib.hid hE
                    have HVO := Lib.hid hvo
                    have hvb : vals.length ≤ 400 := by omega
                    clear hE hD hvo
                    go_wp2_with (first
                      | (go_at_call 55; refine (HFI.out wr (Below.refl _ _)).mono ?_; rintro e w6 ⟨rfl, hB6⟩; clear HFI)
                      | fail)
                    go_roundw
                    case rel => exact ⟨k + 1, pw, out, vals, by omega, by go_num, rfl, Lib.hid (by rw [HS2.out]; rfl), by omega, by omega, by omega, HVO.out, hown.below hB6, hvals, hrl, hB'.trans (hB6.mono hz')⟩
                    case measure => simp [intOf]; omega
                · rw [if_neg hI] at hs
                  have HS2 := Lib.hid hs
                  have dd2 : decide (r = idl n) = false := decide_eq_false hI
                  rw [dd2] at HFI
                  have HI := Lib.hid hI
                  clear hs dd2 hI
                  by_cases hE : out = []
                  · have hd : ¬ r = delta n := fun h => hD ⟨hE, h⟩
                    have dd : decide (r = delta n) = false := decide_eq_false hd
                    rw [dd] at HFD
                    have z1 : ((vals.length : Int) == 0) = true := by rw [hvo, hE]; rfl
                    have HD := Lib.hid hd
                    clear dd hd
                    have HE := Lib.hid hE
                    have HVO := Lib.hid hvo
                    have hvb : vals.length ≤ 400 := by omega
                    clear hE hD hvo
                    go_wp2_with (first
                      | (go_at_call 55; refine (HFD.out wr (Below.refl _ _)).mono ?_; rintro e w5 ⟨rfl, hB5⟩; clear HFD
                         have h05 := (hB5.cell (p := ⟨b, o + k, none⟩) lb9).trans h0'
                         have lb5 := lt_of_cell h05)
                      | (go_at_call 55; refine (HFI.out w5 hB5).mono ?_; rintro e w6 ⟨rfl, hB6⟩; clear HFI
                         have HB6 := (hB5.trans (hB6.mono hB5.size))
                         have h06 := (HB6.cell (p := ⟨b, o + k, none⟩) lb9).trans h0'
                         have hz6 := HB6.size
                         have lb6 := lt_of_cell h06)
                      | (at_builtin; refine wpList_append_fac rfl (.tmp 135) (.tmp 140) _ rfl wo.heap.size _ j0 _ Try.underlying62 hj0 hy0' hy1' hy2' rfl (.slice Ao vals.length co) vals (by kernel_rfl) ((hown.below HB6).alloc _) w6.heap.size Ak r.length ck (by kernel_rfl) (cell_new rfl) (by have := HVO.out; omega) (by simp; omega) ?_; intro v7 w7 ho7 hg7)
                      | fail)
                    go_roundw
                    case rel =>
                      have hB7 : Below wo.heap.size wo w7 := ((hown.below HB6).alloc (.cells #[.slice Ak r.length ck] 38)).grown ((hB'.trans (HB6.mono hz')).alloc (by omega) _) hg7 (by simp; omega)
                      refine ⟨k + 1, pw, out ++ [r], vals ++ [.slice Ak r.length ck], by omega, by go_num, rfl, Lib.hid (by rw [HS2.out]; rfl), by simp; omega, by omega, by omega, by simp [HVO.out], ho7, Lib.hid (fun q hq => ?_), Lib.hid (fun y hy => by rcases List.mem_append.1 hy with h | h; exact hrl.out y h; rw [List.mem_singleton.1 h]; have := HPLn.out; omega), hB7⟩
                      have hvl := HVO.out
                      by_cases e : q < vals.length
                      · obtain ⟨A1, c1', e1, e2⟩ := hvals.out q e
                        refine ⟨A1, c1', ?_⟩
                        rw [List.getElem_append_left e, List.getD_eq_getElem?_getD, List.getElem?_append_left (by omega), ← List.getD_eq_getElem?_getD]
                        exact ⟨e1, e2⟩
                      · have e3 : q = vals.length := by simp at hq; omega
                        subst e3
                        refine ⟨Ak, ck, ?_⟩
                        rw [List.getElem_append_right (Nat.le_refl _), List.getD_eq_getElem?_getD, List.getElem?_append_right (by omega)]
                        simp only [Nat.sub_self, List.getElem_cons_zero, hvl, List.getElem?_cons_zero, Option.getD_some]
                        exact ⟨by first | rfl | trivial, hrk⟩
                    case measure => simp [intOf]; omega
                  · have z1 : ((vals.length : Int) == 0) = false := by rw [beq_eq_false_iff_ne, hvo]; have := List.length_pos_iff.2 hE; omega
                    have HE := Lib.hid hE
                    have HVO := Lib.hid hvo
                    have hvb : vals.length ≤ 400 := by omega
                    clear hE hD hvo
                    go_wp2_with (first
                      | (go_at_call 55; refine (HFI.out wr (Below.refl _ _)).mono ?_; rintro e w6 ⟨rfl, hB6⟩; clear HFI
                         have HB6 := hB6
                         have h06 := (HB6.cell (p := ⟨b, o + k, none⟩) lb9).trans h0'
                         have hz6 := HB6.size
                         have lb6 := lt_of_cell h06)
                      | (at_builtin; refine wpList_append_fac rfl (.tmp 135) (.tmp 140) _ rfl wo.heap.size _ j0 _ Try.underlying62 hj0 hy0' hy1' hy2' rfl (.slice Ao vals.length co) vals (by kernel_rfl) ((hown.below HB6).alloc _) w6.heap.size Ak r.length ck (by kernel_rfl) (cell_new rfl) (by have := HVO.out; omega) (by simp; omega) ?_; intro v7 w7 ho7 hg7)
                      | fail)
                    go_roundw
                    case rel =>
                      have hB7 : Below wo.heap.size wo w7 := ((hown.below HB6).alloc (.cells #[.slice Ak r.length ck] 38)).grown ((hB'.trans (HB6.mono hz')).alloc (by omega) _) hg7 (by simp; omega)
                      refine ⟨k + 1, pw, out ++ [r], vals ++ [.slice Ak r.length ck], by omega, by go_num, rfl, Lib.hid (by rw [HS2.out]; rfl), by simp; omega, by omega, by omega, by simp [HVO.out], ho7, Lib.hid (fun q hq => ?_), Lib.hid (fun y hy => by rcases List.mem_append.1 hy with h | h; exact hrl.out y h; rw [List.mem_singleton.1 h]; have := HPLn.out; omega), hB7⟩
                      have hvl := HVO.out
                      by_cases e : q < vals.length
                      · obtain ⟨A1, c1', e1, e2⟩ := hvals.out q e
                        refine ⟨A1, c1', ?_⟩
                        rw [List.getElem_append_left e, List.getD_eq_getElem?_getD, List.getElem?_append_left (by omega), ← List.getD_eq_getElem?_getD]
                        exact ⟨e1, e2⟩
                      · have e3 : q = vals.length := by simp at hq; omega
                        subst e3
                        refine ⟨Ak, ck, ?_⟩
                        rw [List.getElem_append_right (Nat.le_refl _), List.getD_eq_getElem?_getD, List.getElem?_append_right (by omega)]
                        simp only [Nat.sub_self, List.getElem_cons_zero, hvl, List.getElem?_cons_zero, Option.getD_some]
                        exact ⟨by first | rfl | trivial, hrk⟩
                    case measure => simp [intOf]; omega
            · have e0 : k = L.length := by omega
              have hpo2 := hpo.out
              rw [e0, List.take_length] at hpo2
              have hFN2 := hFN.out
              rw [hpo2] at hFN2
              have c9 : ¬ (k : Int) < (L0.length : Int) := by have := HLl.out; omega
              have HFN2 := Lib.hid hFN2
              have HVO := Lib.hid hvo
              clear hFN2 hpo2 e0 hvo
              have hRO : RdG wr wr.heap.size Ao out := fun hne => by
                obtain ⟨b, o, e, hb, hc⟩ := hro (fun h => hne (List.eq_nil_of_length_eq_zero (by rw [← HVO.out, h]; rfl)))
                refine ⟨b, o, e, hb, fun q hq => ?_⟩
                have hq' : q < vals.length := by rw [HVO.out]; exact hq
                obtain ⟨Ak, ck, h1, h2⟩ := hvals.out q hq'
                have hg : out.getD q [] = out[q] := getD_at hq
                rw [hg] at h1 h2
                have := hc q _ (List.getElem?_eq_getElem hq') 0 _ rfl
                rw [h1, Nat.mul_one, Nat.add_zero] at this
                exact ⟨Ak, ck, this, (h2.below' hB' (Nat.le_refl _)).more hz'⟩
              go_wp2_with fail
              go_ret3
              exact ⟨Ao, co, pw, out, by rw [← HVO.out]; rfl, hRO, HFN2.out, hrl.out, by omega, (hB1.trans (hB.mono hz1)).trans (hB'.mono (hB1.trans (hB.mono hz1)).size)⟩
end Go.Proofs.Ytfnklchhhojimaa
