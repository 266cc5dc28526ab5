/- slices.Delete and slices.Clone of steps. -/
import Derived.Test.YtfnklchhhojimaaClos
import Derived.Deep.RegionLaw
import Derived.Lib.SliceRun
set_option linter.unusedSimpArgs false
set_option linter.unusedVariables false
namespace Go.Proofs.Ytfnklchhhojimaa
open Go Go.RowKit Tor

theorem infoStep' : (Try.prog.info? 45).map (fun i => (i.zero, i.size, i.bytes)) = some (some (.agg #[.int .i64 0, .int .i64 0, .string ⟨#[]⟩]), 3, 32) := by kernel_rfl
theorem infoStepZ : (Try.prog.info? 45).map (fun i => (i.zero, i.size)) = some (some (.agg #[.int .i64 0, .int .i64 0, .string ⟨#[]⟩]), 3) := by kernel_rfl
theorem flat_take (l : List Tri) : ∀ n, (l.flatMap Tri.enc).take (n * 3) = (l.take n).flatMap Tri.enc := by
  induction l with
  | nil => intro n; simp
  | cons x r ih =>
    intro n
    cases n with
    | zero => simp
    | succ n =>
      rw [List.take_succ_cons, List.flatMap_cons, List.flatMap_cons, ← ih n, List.take_append]
      have e : x.enc.length = 3 := rfl
      rw [List.take_of_length_le (by rw [e]; omega), e, show (n + 1) * 3 - 3 = n * 3 by omega]
theorem flat_drop (l : List Tri) : ∀ n, (l.flatMap Tri.enc).drop (n * 3) = (l.drop n).flatMap Tri.enc := by
  induction l with
  | nil => intro n; simp
  | cons x r ih =>
    intro n
    cases n with
    | zero => simp
    | succ n =>
      have e : x.enc.length = 3 := rfl
      rw [List.drop_succ_cons, List.flatMap_cons, ← ih n, List.drop_append, List.drop_of_length_le (by rw [e]; omega), e, show (n + 1) * 3 - 3 = n * 3 by omega, List.nil_append]
theorem TRow.all {T : TypeId} {w : World} {base g cap : Nat} {l : List Tri} (h : TRow T w base g cap l) : base ≤ g ∧ l.length ≤ cap ∧ cap ≤ maxLen ∧ ∃ cur, w.heap[g]? = some (.cells cur T (0, 0)) ∧ cur.size = cap * 3 ∧ cur.toList.take (l.length * 3) = l.flatMap Tri.enc := by
  rcases h.2 with ⟨h', _⟩ | ⟨g', cap', cur, h', hb, hg, hn, hm, hs, ht⟩
  · simp at h'
  · simp only [Value.slice.injEq, Option.some.injEq, Addr.mk.injEq, and_true, true_and] at h'
    obtain ⟨rfl, rfl⟩ := h'
    exact ⟨hb, hn, hm, cur, hg, hs, ht⟩
theorem TRow.some {T : TypeId} {w : World} {base g cap : Nat} {l : List Tri} (h : TRow T w base g cap l) {k : Nat} (hk : k < cap * 3) : (w.cell? ⟨g, k, none⟩).isSome = true := by
  obtain ⟨_, _, _, cur, hg, hs, _⟩ := h.all
  rw [cell_of_row w g k cur T (0, 0) hg, Array.getElem?_eq_getElem (by omega)]; rfl
theorem TRow.past {T : TypeId} {w : World} {base g cap : Nat} {l : List Tri} (h : TRow T w base g cap l) {k : Nat} (hk : l.length * 3 ≤ k) (u : Value) : TRow T (w.setCell ⟨g, k, none⟩ u) base g cap l := by
  have h' := h
  unfold TRow Own at h' ⊢
  obtain ⟨h1, _⟩ := h'.stored k u
  rwa [List.set_eq_of_length_le (by rw [flat_tri_len]; exact hk)] at h1

theorem step_append_row {P : Program} {ops : Array Oper} {o : Oper} {a : Act} {w : World} {K : Act → World → Prop} {Q : Exit → Act → World → Prop} {E : Prop}
    (hgd : o.guard = none) (s x : Operand) (t : TypeId) (hop : o.op = Op.call { callee := Callee.builtin Builtin.append, args := #[s, x], argTypes := #[t, t] })
    (e : TypeId) (i : TypeInfo) (h1 : P.underlying t = some (.slice e)) (h2 : P.info? e = some i) (h4 : i.size = 3)
    (base g n cap m c : Nat) (l news : List Tri) (hs : a.eval s = .slice (some ⟨g, 0, none⟩) n cap) (ad : Addr) (hx : a.eval x = .slice (some ad) m c)
    (hrow : TRow e w base g cap l) (hnl : news.length = m) (hc : ∀ j u, (news.flatMap Tri.enc)[j]? = some u → w.cell? (ad.add j) = some u) (hroom : n + m ≤ l.length)
    (hK : ∀ w', TRow e w' base g cap (l.take n ++ news) → Below base w w' → K (a.put o.dst (.slice (some ⟨g, 0, none⟩) (n + m) cap)) w') :
    if Region.wanted o (yielded ops a.tmps) = true then Oper.wp P o a w K Q else E := by
  have hw : Region.wanted o (yielded ops a.tmps) = true := by simp [Region.wanted, hgd]
  rw [if_pos hw]
  obtain ⟨hb, hlc, hcm, cur, hg, hcs, ht⟩ := hrow.all
  have hfl : (news.flatMap Tri.enc).length = m * i.size := by rw [flat_tri_len, hnl, h4]
  have hlen : (news.flatMap Tri.enc).length = m * 3 := by rw [flat_tri_len, hnl]
  have hfit : n * i.size + (news.flatMap Tri.enc).length ≤ cur.size := by rw [hlen, h4, hcs]; omega
  have hrun := run_append_room (P := P) w t o.type e i h1 h2 g n cap cur hg ad m c (news.flatMap Tri.enc) hfl hc
    (by intro u hu; obtain ⟨y, _, hy⟩ := List.mem_flatMap.1 hu; simp [Tri.enc] at hy; rcases hy with rfl | rfl | rfl <;> rfl) (by omega) hfit
  have hK' := hK (w.setRow g (cur.toList.take (n * i.size) ++ news.flatMap Tri.enc ++ cur.toList.drop (n * i.size + (news.flatMap Tri.enc).length)).toArray) ?_ ?_
  · unfold Oper.wp execOp
    simp only [hop, resolve, invoke, builtin, Sem.run_bind, Sem.run_pure, Result.andThen_ok, List.map_toArray, List.map_cons, List.map_nil, hs, hx, hrun]
    exact hK'
  · refine ⟨flat_tri_len _, Or.inr ⟨g, cap, _, rfl, hb, setRow_heap w g cur _ e _ hg, ?_, hcm, ?_, ?_⟩⟩
    · rw [List.length_append, List.length_take, hnl]; omega
    · rw [h4]
      simp only [List.size_toArray, List.length_append, List.length_take, List.length_drop, Array.length_toList, hlen, hcs]
      omega
    · rw [h4]
      have e1 : (l.take n ++ news).length * 3 = (cur.toList.take (n * 3) ++ news.flatMap Tri.enc).length := by
        have ec : cur.toList.length = cap * 3 := by rw [Array.length_toList, hcs]
        rw [List.length_append, List.length_append, List.length_take, List.length_take, ec, hlen, hnl]; omega
      show List.take ((l.take n ++ news).length * 3) _ = _
      rw [e1, List.take_left, List.flatMap_append, ← flat_take, ← ht, List.take_take, Nat.min_eq_left (by omega)]
  · exact ⟨rfl, rfl, rfl, by simp [World.setRow], fun k hk => setRow_other w g k _ (by omega)⟩

theorem clear1 (w : World) (ty : TypeId) (g k c : Nat) (hc : ∀ j, j < 3 → (w.cell? ⟨g, k + j, none⟩).isSome = true) (hf : ∀ j, j < 3 → w.frozen? ⟨g, k + j, none⟩ = false) :
    (Builtin.clear_ #[22] ty #[.slice (some ⟨g, k, none⟩) 1 c]).run Try.prog w = .ok (.tuple #[]) (((w.setCell ⟨g, k, none⟩ (.int .i64 0)).setCell ⟨g, k + 1, none⟩ (.int .i64 0)).setCell ⟨g, k + 2, none⟩ (.string ⟨#[]⟩)) := by
  obtain ⟨i0, hi0, hz0, hz1, hz2⟩ := info_parts infoStep'
  have hv : ∀ w, (zeroValue 45).run Try.prog w = .ok (.agg #[.int .i64 0, .int .i64 0, .string ⟨#[]⟩]) w := (zero_of_info infoStepZ).1
  have hzc : (Builtin.zeroCells (Value.agg #[.int .i64 0, .int .i64 0, .string ⟨#[]⟩]).cells 1).toList = [.int .i64 0, .int .i64 0, .string ⟨#[]⟩] := by
    have : (Value.agg #[.int .i64 0, .int .i64 0, .string ⟨#[]⟩]).cells = #[.int .i64 0, .int .i64 0, .string ⟨#[]⟩] := by rfl
    rw [this]; unfold Builtin.zeroCells; simp [show List.range 3 = [0, 1, 2] from rfl]
  have hst := run_storeCells_cells (P := Try.prog) g k [.int .i64 0, .int .i64 0, .string ⟨#[]⟩] 0 w (by simpa using hc) (by simpa using hf) (by intro v hv'; simp at hv'; rcases hv' with rfl | rfl <;> rfl)
  simp only [Nat.add_zero] at hst
  simp [Builtin.clear_, run_underlying Try.underlying22, hv, hzc, hst, World.setCells]


set_option maxRecDepth 100000 in
set_option maxHeartbeats 4000000 in
theorem delete_any (base g cap : Nat) (l : List Tri) (n m : Nat) (w : World) (hR : SRowT w base g cap l) (hbase : base ≤ w.heap.size) (hL : l.length = n + 1 + m) (hl : l.length ≤ 2000) :
    Calls Try.prog 39 #[.slice (some ⟨g, 0, none⟩) (n + 1 + m) cap, .int .i64 n, .int .i64 ((n : Int) + 1)] w fun e w' =>
      e = .returned (.slice (some ⟨g, 0, none⟩) (n + m) cap) ∧ SRowT w' base g cap (l.eraseIdx n) ∧ Below base w w' := by
  obtain ⟨i0, hi0, hz0, hz1, hz2⟩ := info_parts infoStep'
  have hcapL := hR.all.2.1
  have hb := hR.heap.1
  rw [hL] at hcapL
  have hlast : l.take n ++ l.drop (n + 1) = l.eraseIdx n := (List.eraseIdx_eq_take_drop_succ l n).symm
  have HL := Lib.hid hL
  have HN : Hid ((l.drop (n + 1)).length = m) := by rw [Hid, List.length_drop]; omega
  obtain ⟨A, hA, hsrc⟩ : ∃ A : Addr, (if cap = n + 1 then some (⟨g, 0, none⟩ : Addr) else some ⟨g, (n + 1) * 3, none⟩) = some A ∧ Hid (∀ t u, ((l.drop (n + 1)).flatMap Tri.enc)[t]? = some u → w.drew.cell? (A.add t) = some u) := by
    by_cases h : cap = n + 1
    · refine ⟨_, by rw [if_pos h], fun t u hu => ?_⟩
      have : l.drop (n + 1) = [] := List.drop_eq_nil_of_le (by omega)
      rw [this] at hu; simp at hu
    · refine ⟨_, by rw [if_neg h], fun t u hu => ?_⟩
      obtain ⟨_, _, _, cur, hg, hcs, ht⟩ := hR.all
      have e : (⟨g, (n + 1) * 3, none⟩ : Addr).add t = ⟨g, (n + 1) * 3 + t, none⟩ := by unfold Addr.add; split <;> simp_all
      have hu2 : (l.flatMap Tri.enc)[(n + 1) * 3 + t]? = some u := by
        have e2 := flat_drop l (n + 1)
        rw [← e2, List.getElem?_drop] at hu
        exact hu
      rw [e]
      show w.cell? _ = _
      rw [cell_of_row w g _ cur _ (0, 0) hg]
      rw [← ht, List.getElem?_take] at hu2
      split at hu2
      · simpa using hu2
      · cases hu2
  have HR : Hid (SRowT w.drew base g cap l) := Lib.hid hR.drew
  have x1 : n ≤ cap := by omega
  have x2 : n + 1 ≤ cap := by omega
  have x3 : n + 1 + m ≤ cap := by omega
  have y1 : (n : Int) ≤ (n : Int) + 1 := by omega
  have y2 : ((n : Int) + 1).toNat = n + 1 := by omega
  have y3 : (n : Int) + 1 ≤ (n : Int) + 1 + (m : Int) := by omega
  have y4 : (n : Int) + 1 + (m : Int) ≤ (cap : Int) := by omega
  have y5 : ((n : Int) + 1 + (m : Int)).toNat = n + 1 + m := by omega
  have y6 : (n : Int) + 1 ≤ (cap : Int) := by omega
  have y7 : (0 : Int) ≤ (n : Int) + 1 := by omega
  have y8 : ((n : Int) == (n : Int) + 1) = false := by simp; omega
  clear hL
  go_enter Try.func39, Try.ntmps39
  go_wp2_with fail
  go_region_law (refine step_append_row rfl (.tmp 22) (.tmp 25) _ rfl _ i0 Try.underlying22 hi0 hz1 base g n cap m (cap - (n + 1)) l (l.drop (n + 1)) (by simp [Act.eval, Act.put]) A (by simp [Act.eval, Act.put] <;> (first | exact ⟨hA, by omega⟩ | exact hA)) HR.out HN.out hsrc.out (by have := HL.out; omega) ?_; intro w3 hR3 hB3)
  rw [hlast] at hR3
  have HB3 : Below base w w3 := (Below.refl base w).drew.trans hB3
  have hlen : (l.eraseIdx n).length = n + m := by rw [List.length_eraseIdx, if_pos (by have := HL.out; omega)]; have := HL.out; omega
  have hcl : ∀ ty c, (Builtin.clear_ #[22] ty #[.slice (some ⟨g, (n + m) * 3, none⟩) 1 c]).run Try.prog w3 = _ := fun ty c => clear1 w3 ty g ((n + m) * 3) c (fun j hj => hR3.some (by omega)) (fun j hj => hR3.frozen _)
  have z1 : ¬ cap = n + m := by omega
  have z2 : ((n : Int) + (m : Int)).toNat = n + m := by omega
  have z3 : (n : Int) + (m : Int) ≤ (n : Int) + 1 + (m : Int) := by omega
  have z4 : n + 1 + m - (n + m) = 1 := by omega
  have z5 : (0 : Int) ≤ (n : Int) + (m : Int) := by omega
  have z6 : (n : Int) + (m : Int) ≤ (cap : Int) := by omega
  go_wp2_with fail
  go_ret
  refine ⟨rfl, ?_, ?_⟩
  · exact ((hR3.past (k := (n + m) * 3) (by omega) (.int .i64 0)).past (k := (n + m) * 3 + 1) (by omega) (.int .i64 0)).past (k := (n + m) * 3 + 2) (by omega) (.string ⟨#[]⟩)
  · exact below_put3 HB3 hb ((n + m) * 3) (.int .i64 0) (.int .i64 0) (.string ⟨#[]⟩)


set_option maxRecDepth 100000 in
set_option maxHeartbeats 4000000 in
theorem skipP_any (base g cap : Nat) (l : List Tri) (k wi lt : Int) (n : Nat) (w : World) (hR : SRowT w base g cap l) (hbase : base ≤ w.heap.size) (hl : l.length ≤ 2000) (hn : n < l.length) :
    Calls Try.prog 38 #[.slice (some ⟨g, 0, none⟩) l.length cap, .agg #[.int .i64 k, .int .i64 n, .int .i64 lt, .int .i64 wi]] w (FPutPost base g (l.eraseIdx n) w) := by
  obtain ⟨m, hm⟩ : ∃ m, l.length = n + 1 + m := ⟨l.length - (n + 1), by omega⟩
  have hR1 := hR.alloc (.cells #[.int .i64 k, .int .i64 n, .int .i64 lt, .int .i64 wi] 24)
  have hBB : Below base w (w.alloc (.cells #[.int .i64 k, .int .i64 n, .int .i64 lt, .int .i64 wi] 24)) := by (repeat' first | assumption | exact Below.refl _ _ | apply Below.drew | (refine Below.setCells ?_ _ _ ?_) | (refine Below.setCell ?_ ?_ _) | (refine Below.alloc ?_ ?_ _) | (simp; done) | (simp; omega))
  have HD := Lib.hid (delete_any base g cap l n m _ hR1 (Nat.le_trans hbase hBB.size) hm hl)
  have hlen : Hid ((l.eraseIdx n).length = n + m) := by rw [Hid, List.length_eraseIdx, if_pos (by omega)]; omega
  have n0 : IntKind.i64.wrap ((n : Int) + 1) = (n : Int) + 1 := IntWalk.i64_in _ (by omega)
  rw [hm]
  clear hm hR1
  go_enter Try.func38, Try.ntmps38
  go_wp2_with (first | (go_at_call 39; refine HD.out.mono ?_; rintro e w2 ⟨rfl, hR2, hB2⟩) | fail)
  go_ret
  exact ⟨cap, by rw [hlen.out]; rfl, hR2, hBB.trans hB2⟩

theorem tflat_inv : ∀ (l : List Tri) (j : Nat) (u : Value), (l.flatMap Tri.enc)[j]? = some u → ∃ k x i, l[k]? = some x ∧ x.enc[i]? = some u ∧ j = k * 3 + i
  | [], j, u, h => by simp at h
  | x :: r, j, u, h => by
    have e : x.enc.length = 3 := rfl
    rw [List.flatMap_cons] at h
    by_cases hj : j < 3
    · rw [List.getElem?_append_left (by omega)] at h
      exact ⟨0, x, j, rfl, h, by omega⟩
    · rw [List.getElem?_append_right (by omega), e] at h
      obtain ⟨k, y, i, h1, h2, h3⟩ := tflat_inv r (j - 3) u h
      exact ⟨k + 1, y, i, by simpa using h1, h2, by omega⟩


set_option maxRecDepth 100000 in
set_option maxHeartbeats 4000000 in
theorem clone_any (b o c : Nat) (l : List Tri) (w : World) (H : Nat) (hr : RdT w H (some ⟨b, o, none⟩) l) (hl0 : l ≠ []) (hl : l.length ≤ 2000) :
    Calls Try.prog 29 #[.slice (some ⟨b, o, none⟩) l.length c] w fun e w' => ∃ g cap, e = .returned (.slice (some ⟨g, 0, none⟩) l.length cap) ∧ SRowT w' w.heap.size g cap l ∧ Below w.heap.size w w' := by
  obtain ⟨i0, hi0, hz0, hz1, hz2⟩ := info_parts infoStep'
  have A : Hid (∀ j u, (l.flatMap Tri.enc)[j]? = some u → w.cell? ⟨b, o + j, none⟩ = some u) := Lib.hid fun j u hj => by
    obtain ⟨k, x, i, h1, h2, h3⟩ := tflat_inv l j u hj
    obtain ⟨b', o', e, _, hc⟩ := hr hl0
    simp only [Option.some.injEq, Addr.mk.injEq, and_true] at e
    obtain ⟨rfl, rfl⟩ := e
    have := hc k x h1 i u h2
    rw [h3, ← Nat.add_assoc]; exact this
  have Q0 := Lib.hid hl0
  have q22 : ∀ (w : World) (a : Option Addr) (n c n' c' : Nat), (binOp .eql 22 (.slice a n c) (.slice none n' c')).run Try.prog w = .ok (.bool a.isNone) w := fun w a n c n' c' => Lib.run_eql_slice_nil w _ _ a n c n' c' Try.underlying22
  clear hr hl0
  go_enter Try.func29, Try.ntmps29
  go_wp2_with (at_builtin; refine wpList_append_own _ rfl _ _ _ rfl w.heap.size _ i0 _ 3 32 Try.underlying22 hi0 hz0 hz1 hz2 rfl (by decide) _ _ _ rfl (World.ownsRow_made w #[] 0 (Nat.le_refl _) (Nat.zero_le _) (by simp)) ⟨b, o, none⟩ l.length c (l.flatMap Tri.enc) rfl ?qc1 ?qc2 ?qc3 ?qc4 ?qc5 ?qc6 ?_)
  case qc1 => exact flat_tri_len l
  case qc2 =>
    intro j u hj
    have e : (⟨b, o, none⟩ : Addr).add j = ⟨b, o + j, none⟩ := by unfold Addr.add; split <;> simp_all
    rw [e]
    exact cell_old (A.out j u hj)
  case qc3 =>
    intro u hu; obtain ⟨y, _, hy⟩ := List.mem_flatMap.1 hu; simp [Tri.enc] at hy; rcases hy with rfl | rfl | rfl <;> rfl
  case qc4 => unfold maxLen; omega
  case qc5 => omega
  case qc6 => simp
  intro v' w1 hown hgrow hnil
  go_wp2
  go_ret
  have h7 : Own 3 Tri.enc w1 w.heap.size 45 v' l := by simpa [Own] using hown
  obtain ⟨g, cap, rfl, hR⟩ := TRow.of Q0.out h7
  exact ⟨g, cap, rfl, hR, ((Below.refl _ w).alloc (Nat.le_refl _) _).grown hgrow (by simp) (by intro k hk; simp [Value.ownBlock] at hk; omega)⟩
end Go.Proofs.Ytfnklchhhojimaa
