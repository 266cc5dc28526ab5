/- faults: write. -/
import Derived.Test.YtmfklcnocekdlaaGreatDoorFTxM
import Derived.Test.YtmfklcnocekdlaaGreatDoorNum
import Derived.Test.YtmfklcnocekdlaaGreatDoorShelf
import Derived.BigRegion
import Derived.Lib.SmallJoins
set_option linter.unusedSimpArgs false
set_option linter.unusedVariables false
namespace Go.Proofs.YtmfklcnocekdlaaGreatDoor
open Go Go.RowKit Tor

theorem infoStr : (Tryz.prog.info? 9).map (fun i => (i.zero, i.size, i.bytes)) = some (some (.string ByteArray.empty), 1, 16) := by kernel_rfl
theorem str_one (x : ByteArray) : ∀ u ∈ senc x, u.oneCell' = true := by
  intro u hu
  simp only [senc, List.mem_cons, List.not_mem_nil, or_false] at hu
  rcases hu with rfl; rfl
theorem str_len (x : ByteArray) : (senc x).length = 1 := rfl
theorem wpList_append_str {P : Program} {ops : Array Oper} {rest : List Oper} {o : Oper} {a : Act} {Q : Exit → Act → World → Prop} {w : World} (hgd : o.guard = none) (s x : Operand) (t : TypeId)
    (ho : o.op = .call { callee := .builtin .append, args := #[s, x], argTypes := #[t, t] })
    (base : Nat) (e : TypeId) (i : TypeInfo) (z : Value) (ht : P.underlying t = some (.slice e)) (hi : P.info? e = some i) (hz : i.zero = some z)
    (hsize : i.size = 1) (hby : i.bytes = 16) (hzs : z.cells.size = 1)
    (v : Value) (l : List ByteArray) (hs : a.eval s = v) (hown : Own 1 senc w base e v l)
    (g : Nat) (y : ByteArray) (hx : a.eval x = .slice (some ⟨g, 0, none⟩) 1 1) (h0 : w.cell? ⟨g, 0, none⟩ = some (.string y))
    (hlen : l.length ≤ 1000000) (hbase : base ≤ w.heap.size)
    (h : ∀ v' w', Own 1 senc w' base e v' (l ++ [y]) → w.grownBy w' v.ownBlock → wpList P ops Q rest (a.put o.dst v') w') : wpList P ops Q (o :: rest) a w := by
  refine wpList_append_own w hgd s x t ho base e i z 1 16 ht hi hz hsize hby hzs (by omega) v l.length (l.flatMap senc) hs hown ⟨g, 0, none⟩ 1 1 (senc y) hx rfl ?_ (str_one y) (by unfold maxLen; omega) (by omega) hbase
    (fun v' w' a b _ => h v' w' (Own.append1 rfl a) b)
  intro j u hu
  match j, hu with
  | 0, hu => simp [senc] at hu; subst hu; exact h0
theorem own_two {w : World} {base g : Nat} {a b : ByteArray} (hg : base ≤ g) (h : Blk w g 9 #[.string a, .string b]) : Own 1 senc w base 9 (.slice (some ⟨g, 0, none⟩) 2 2) [a, b] :=
  ⟨rfl, Or.inr ⟨g, 2, _, rfl, hg, h, Nat.le_refl 2, by unfold maxLen; omega, rfl, rfl⟩⟩


/-- what the library's variables hold -/
structure DtAt (w : World) : Prop where
  ml : ∃ m, w.cell? ⟨0, 0, none⟩ = some (.int .i64 m)
  tab : Lib.TabIs Tryz.prog w "internal/strconv.uint64pow10" .u64 Lib.pow10Tab
  err : ∃ ev, w.cell? ⟨3, 0, none⟩ = some ev ∧ (ev = .nilIface ∨ ∃ te pe, ev = .iface te pe)
theorem DtAt.below {w w' : World} (h : DtAt w) (hB : Below w.heap.size w w') : DtAt w' := by
  obtain ⟨⟨m, hm⟩, h2, ev, h3, h4⟩ := h
  exact ⟨⟨m, (hB.cell (p := ⟨0, 0, none⟩) (lt_of_cell hm)).trans hm⟩, Joins.tab_stays (g := 1) (by kernel_rfl) h2 hB (Nat.le_refl _), ev, (hB.cell (p := ⟨3, 0, none⟩) (lt_of_cell h3)).trans h3, h4⟩
theorem below_drewW {W w' : World} (h : Below W.drew.heap.size W.drew w') : Below W.heap.size W w' := ⟨h.os, h.tape, h.output, h.size, h.block⟩
theorem below_growF (w : World) (k : Nat) (os : Array Obj) : Below w.heap.size w («Sort».grow (w.drewN k) os) :=
  ⟨rfl, rfl, rfl, by show w.heap.size ≤ (w.heap ++ os).size; rw [Array.size_append]; omega, fun j hj => by
    show (w.heap ++ os)[j]? = w.heap[j]?
    rw [Array.getElem?_append_left hj]⟩
theorem digF_any (n : Int) (h0 : -9223372036854775808 ≤ n) (h1 : n ≤ 9223372036854775807) (w : World) (h : DtAt w) : Calls Tryz.prog 34 #[.int .i64 n] w (Ret (.string (bN (Lib.itoa n))) w) := by
  have ht := h.tab
  clear h
  go_enter Tryz.func34, Tryz.ntmps34
  go_wp2_with fail
  refine (Tryz.strconv_FormatInt_10 n h0 h1 w ht).mono ?_
  rintro e w' ⟨rfl, k, os, hk⟩
  go_wp2_with fail
  go_ret
  subst hk
  exact ⟨rfl, below_growF _ _ _⟩
theorem join_S : ∀ l : List (List UInt8), Lib.join l [32] = joinS l
  | [] => rfl
  | [a] => by simp [Lib.join, joinS, List.intercalate]
  | a :: b :: r => by
    have ih := join_S (b :: r)
    unfold Lib.join List.intercalate at ih ⊢
    rw [joinS, ← ih, List.intersperse_cons_cons]
    simp
theorem joinS_len : ∀ l : List (List UInt8), (∀ p ∈ l, p.length ≤ 1000) → (joinS l).length ≤ 1001 * l.length
  | [], _ => by simp [joinS]
  | [a], h => by have := h a (by simp); simp only [joinS, List.length_cons, List.length_nil]; omega
  | a :: b :: r, h => by
    have h1 := h a (by simp)
    have h2 := joinS_len (b :: r) (fun p hp => h p (by simp [hp]))
    simp only [joinS, List.length_append, List.length_cons] at h2 ⊢
    omega
theorem itoaF_len {n : Int} (h0 : -1 ≤ n) (h1 : n ≤ 999) : (Lib.itoa n).length ≤ 1000 := by
  unfold Lib.itoa
  split
  · have : n = -1 := by omega
    subst this
    rw [show (-1 : Int).natAbs = 1 from rfl, Lib.decDigits_one (by omega)]; simp
  · have := Lib.decDigits_length n.toNat
    have h2 : Lib.nDigits n.toNat ≤ n.toNat + 1 := by
      have key : ∀ u : Nat, Lib.nDigits u ≤ u + 1 := by
        intro u
        induction u using Nat.strongRecOn with
        | _ u ih =>
          rw [Lib.nDigits]
          split
          · omega
          · have := ih (u / 10) (by omega); omega
      exact key _
    omega
theorem fnmF_len (k : Int) : (fnm k).length ≤ 1000 := by
  unfold fnm kname
  repeat' split
  all_goals decide
set_option maxRecDepth 100000 in
set_option maxHeartbeats 4000000 in
theorem fwrite_D (kb ko : Nat) (k st lt wi : Int) (hk : k = 4 ∨ k = 6) (hok : FOk ⟨k, st, lt, wi⟩) (w : World) (hDt : DtAt w) (k0 : w.cell? ⟨kb, ko, none⟩ = some (.int .i64 k)) (k1 : w.cell? ⟨kb, ko + 1, none⟩ = some (.string (kname k))) (k2 : w.cell? ⟨kb, ko + 2, none⟩ = some (.bool (klet k))) :
    Calls Tryz.prog 55 #[.pointer (some ⟨kb, ko, none⟩), .agg #[.int .i64 k, .int .i64 st, .int .i64 lt, .int .i64 wi]] w (Ret (.string (bN (textF ⟨k, st, lt, wi⟩))) w) := by
  obtain ⟨i0, hi0, hz0', hz1', hz2'⟩ := info_parts infoStr
  have s0 := hok.s0
  have s1 := hok.s1
  have l0 := hok.l0
  have l1 := hok.l1
  have hwF := hok.w
  simp only at s0 s1 l0 l1 hwF
  have HD := Lib.hid (fun w' (hB : Below w.heap.size w w') => digF_any st (by omega) (by omega) w' (hDt.below hB))
  have zd := itoaF_len (n := st) (by omega) (by omega)
  have zn := fnmF_len k
  have e2 : klet k = false := by rcases hk with rfl | rfl <;> rfl
  rw [e2] at k2
  have c2 : (k == 2) = false := by rw [beq_eq_false_iff_ne]; omega
  have c5 : (k == 5) = false := by rw [beq_eq_false_iff_ne]; omega
  obtain ⟨T, hT⟩ : ∃ T, Hid (textF ⟨k, st, lt, wi⟩ = T) := ⟨_, Lib.hid rfl⟩
  have hTL : Hid (T.length ≤ 100000) := Lib.hid (by
    rw [← hT.out]
    have := joinS_len (piecesF ⟨k, st, lt, wi⟩) (fun p hp => by
      rw [show piecesF ⟨k, st, lt, wi⟩ = [fnm k, Lib.itoa st] from by (rcases hk with rfl | rfl <;> simp [piecesF, klet])] at hp
      simp only [List.mem_cons, List.not_mem_nil, or_false] at hp
      rcases hp with rfl | rfl <;> first | assumption | (simp; done))
    have h2 : (piecesF ⟨k, st, lt, wi⟩).length ≤ 4 := by rw [show piecesF ⟨k, st, lt, wi⟩ = [fnm k, Lib.itoa st] from by (rcases hk with rfl | rfl <;> simp [piecesF, klet])]; simp
    unfold textF
    omega)
  obtain ⟨NM, hNM⟩ : ∃ NM, Hid (kname k = NM) := ⟨_, Lib.hid rfl⟩
  obtain ⟨D, hD⟩ : ∃ D, Hid (bN (Lib.itoa st) = D) := ⟨_, Lib.hid rfl⟩
  have hJ : Hid (Lib.join [NM.data.toList, D.data.toList] [32] = T) := Lib.hid (by
    rw [join_S, ← hT.out, ← hNM.out, ← hD.out]
    unfold textF
    rw [show piecesF ⟨k, st, lt, wi⟩ = [fnm k, Lib.itoa st] from by (rcases hk with rfl | rfl <;> simp [piecesF, klet])]
    rfl)
  rw [hD.out] at HD
  rw [hNM.out] at k1
  rw [hT.out]
  clear zn zd hwF hk
  have hBB : Below w.heap.size w (w.alloc (.cells #[.int .i64 k, .int .i64 st, .int .i64 lt, .int .i64 wi] 41)) := (Below.refl _ _).alloc (Nat.le_refl _) _
  have kF := Blk.new w 41 #[.int .i64 k, .int .i64 st, .int .i64 lt, .int .i64 wi]
  have kbl := lt_of_cell k0
  have fl := kF.lt
  have k0' := cell_old (o := (.cells #[.int .i64 k, .int .i64 st, .int .i64 lt, .int .i64 wi] 41)) k0
  have k1' := cell_old (o := (.cells #[.int .i64 k, .int .i64 st, .int .i64 lt, .int .i64 wi] 41)) k1
  have k2' := cell_old (o := (.cells #[.int .i64 k, .int .i64 st, .int .i64 lt, .int .i64 wi] 41)) k2
  clear hok
  go_enter Tryz.func55, Tryz.ntmps55
  go_wp2_with fail
  have hBd : Below w.heap.size w (w.alloc (.cells #[.int .i64 k, .int .i64 st, .int .i64 lt, .int .i64 wi] 41)).drew := ⟨hBB.os, hBB.tape, hBB.output, hBB.size, hBB.block⟩
  generalize w.alloc (.cells #[.int .i64 k, .int .i64 st, .int .i64 lt, .int .i64 wi] 41) = W at *
  have kbW := lt_of_cell k0'
  have f1 := kF.cell 1 (.int .i64 st) rfl
  have f2 := kF.cell 2 (.int .i64 lt) rfl
  have f3 := kF.cell 3 (.int .i64 wi) rfl
  refine wp_region_J (fun w' => w'.cell? ⟨kb, ko + 1, none⟩ = some (.string NM) ∧ w'.cell? ⟨w.heap.size, 1, none⟩ = some (.int .i64 st)) (fun _ => True) (fun _ => false) (by kernel_rfl) ?_
  have hS1 : W.drew.cell? ⟨kb, ko + 1, none⟩ = some (.string NM) ∧ W.drew.cell? ⟨w.heap.size, 1, none⟩ = some (.int .i64 st) := ⟨k1', f1⟩
  refine wpAnyJ_take1 0 rfl (by kernel_rfl) (by kernel_rfl) rfl (by kernel_rfl) (fun _ _ _ h => h) (by rfl) hS1 (fun w' hSw => (by obtain ⟨z1, z2⟩ := hSw; go_simp; try (with_reducible rfl))) ?_
  try simp only [Act.put, List.getElem_toArray, List.getElem_cons_succ, List.getElem_cons_zero, List.setIfInBounds_toArray, List.set_cons_zero, List.set_cons_succ]
  refine wpAnyJ_take1 1 rfl (by kernel_rfl) (by kernel_rfl) rfl (by kernel_rfl) (fun _ _ _ h => h) (by rfl) hS1 (fun w' hSw => (by obtain ⟨z1, z2⟩ := hSw; go_simp; try (with_reducible rfl))) ?_
  try simp only [Act.put, List.getElem_toArray, List.getElem_cons_succ, List.getElem_cons_zero, List.setIfInBounds_toArray, List.set_cons_zero, List.set_cons_succ]
  refine wpAnyJ_take1 2 rfl (by kernel_rfl) (by kernel_rfl) rfl (by kernel_rfl) (fun _ _ _ h => h) (by rfl) hS1 (fun w' hSw => (by obtain ⟨z1, z2⟩ := hSw; go_simp; try (with_reducible rfl))) ?_
  try simp only [Act.put, List.getElem_toArray, List.getElem_cons_succ, List.getElem_cons_zero, List.setIfInBounds_toArray, List.set_cons_zero, List.set_cons_succ]
  refine wpAnyJ_take1 3 rfl (by kernel_rfl) (by kernel_rfl) rfl (by kernel_rfl) (fun _ _ _ h => h) (by rfl) hS1 (fun w' hSw => (by obtain ⟨z1, z2⟩ := hSw; go_simp; try (with_reducible rfl))) ?_
  try simp only [Act.put, List.getElem_toArray, List.getElem_cons_succ, List.getElem_cons_zero, List.setIfInBounds_toArray, List.set_cons_zero, List.set_cons_succ]
  refine wpAnyJ_take1 4 rfl (by kernel_rfl) (by kernel_rfl) rfl (by kernel_rfl) (fun _ _ _ h => h) (by rfl) hS1 (fun w' hSw => (by obtain ⟨z1, z2⟩ := hSw; go_simp; try (with_reducible rfl))) ?_
  try simp only [Act.put, List.getElem_toArray, List.getElem_cons_succ, List.getElem_cons_zero, List.setIfInBounds_toArray, List.set_cons_zero, List.set_cons_succ]
  refine wpAnyJ_take1 5 rfl (by kernel_rfl) (by kernel_rfl) rfl (by kernel_rfl) (fun _ _ _ h => h) (by rfl) hS1 (fun w' hSw => (by obtain ⟨z1, z2⟩ := hSw; go_simp; try (with_reducible rfl))) ?_
  try simp only [Act.put, List.getElem_toArray, List.getElem_cons_succ, List.getElem_cons_zero, List.setIfInBounds_toArray, List.set_cons_zero, List.set_cons_succ]
  refine wpAnyJ_ready [6] (by kernel_rfl) (by simp) (NextJ.cons rfl (fun K hK => ?_) NextJ.nil)
  go_simp
  refine (HD.out W.drew hBd).mono ?_
  rintro e w5 ⟨rfl, hB5⟩
  have kF5 := kF.drew.below' hB5
  have k05 := (hB5.cell (p := ⟨kb, ko, none⟩) kbW).trans k0'
  have k15 := (hB5.cell (p := ⟨kb, ko + 1, none⟩) kbW).trans k1'
  have k25 := (hB5.cell (p := ⟨kb, ko + 2, none⟩) kbW).trans k2'
  have r5 := below_drewW hB5
  have hS5 := And.intro k15 (kF5.cell 1 (.int .i64 st) rfl)
  go_simp
  refine hK.out _ _ hS5 (fun h => absurd h (by decide)) ?_
  clear hK K
  try simp only [Act.put, List.getElem_toArray, List.getElem_cons_succ, List.getElem_cons_zero, List.setIfInBounds_toArray, List.set_cons_zero, List.set_cons_succ]
  refine wpAnyJ_ready [7] (by kernel_rfl) (by simp) (NextJ.cons rfl (fun K hK => ?_) NextJ.nil)
  go_simp
  have hS7 := And.intro (cell_old (o := (.cells #[.string NM, .string D] 9)) k15) ((kF5.alloc (.cells #[.string NM, .string D] 9)).cell 1 (.int .i64 st) rfl)
  refine hK.out _ _ hS7 (fun h => absurd h (by decide)) ?_
  clear hK K
  try simp only [Act.put, List.getElem_toArray, List.getElem_cons_succ, List.getElem_cons_zero, List.setIfInBounds_toArray, List.set_cons_zero, List.set_cons_succ]
  refine wpAnyJ_take1 8 rfl (by kernel_rfl) (by kernel_rfl) rfl (by kernel_rfl) (fun _ _ _ h => h) (by rfl) hS7 (fun w' hSw => (by obtain ⟨z1, z2⟩ := hSw; go_simp; try (with_reducible rfl))) ?_
  try simp only [Act.put, List.getElem_toArray, List.getElem_cons_succ, List.getElem_cons_zero, List.setIfInBounds_toArray, List.set_cons_zero, List.set_cons_succ]
  refine wpAnyJ_done (by kernel_rfl) ?_ _
  clear hS1 hS5 hS7
  have k06 := cell_old (o := (.cells #[.string NM, .string D] 9)) k05
  have k26 := cell_old (o := (.cells #[.string NM, .string D] 9)) k25
  have kF6 := kF5.alloc (.cells #[.string NM, .string D] 9)
  have kS := Blk.new w5 9 #[.string NM, .string D]
  have r6 : Below W.heap.size W (w5.alloc (.cells #[.string NM, .string D] 9)) := r5.alloc r5.size _
  have ho6 : Tor.Own 1 senc (w5.alloc (.cells #[.string NM, .string D] 9)) W.heap.size 9 (.slice (some ⟨w5.heap.size, 0, none⟩) 2 2) [NM, D] := own_two r5.size kS
  have kbz : kb < (w5.alloc (.cells #[.string NM, .string D] 9)).heap.size := lt_of_cell k06
  have g2 := kF6.cell 2 (.int .i64 lt) rfl
  have g3 := kF6.cell 3 (.int .i64 wi) rfl
  have b56 := r5.size
  have hbk5 : w5.heap.size < (w5.alloc (.cells #[.string NM, .string D] 9)).heap.size := by simp
  generalize w5.alloc (.cells #[.string NM, .string D] 9) = w6 at *
  have q6 := hBB.trans (r6.mono hBB.size)
  have hs6 := r6.size
  obtain ⟨A10, c10, e10, hc10, hr10⟩ := Own.rd str_len ho6
  obtain ⟨bk, ok, rfl, hbk, hcells⟩ := hr10 (by simp)
  have e11 := e10
  simp only [Value.slice.injEq, Option.some.injEq, Addr.mk.injEq, and_true, List.length_cons, List.length_nil] at e11
  obtain ⟨⟨rfl, rfl⟩, _, rfl⟩ := e11
  clear e10
  go_wp2_with fail
  refine (Tryz.strings_Join w5.heap.size 0 2 [NM, D] ⟨#[32]⟩ _ (fun j x hx => (by have := hcells j x hx 0 _ rfl; simpa using this)) hbk (by simp) hc10 (by show (Lib.join ([NM, D].map (·.data.toList)) [32]).length ≤ _; have := hTL.out; simp only [List.map_cons, List.map_nil]; rw [hJ.out]; omega)).mono ?_
  rintro e w12 ⟨rfl, hB12⟩
  go_wp2_with fail
  go_ret
  refine ⟨?_, (hBB.trans ((r6).mono hBB.size)).trans (hB12.mono (hBB.trans ((r6).mono hBB.size)).size)⟩
  show Ending.returned (.string ⟨(Lib.join ([NM, D].map (·.data.toList)) [32]).toArray⟩) = _
  simp only [List.map_cons, List.map_nil]
  rw [hJ.out]
  rfl
set_option maxRecDepth 100000 in
set_option maxHeartbeats 4000000 in
theorem fwrite_A (kb ko : Nat) (k st lt wi : Int) (hk : k = 1 ∨ k = 3) (hok : FOk ⟨k, st, lt, wi⟩) (w : World) (hDt : DtAt w) (k0 : w.cell? ⟨kb, ko, none⟩ = some (.int .i64 k)) (k1 : w.cell? ⟨kb, ko + 1, none⟩ = some (.string (kname k))) (k2 : w.cell? ⟨kb, ko + 2, none⟩ = some (.bool (klet k))) :
    Calls Tryz.prog 55 #[.pointer (some ⟨kb, ko, none⟩), .agg #[.int .i64 k, .int .i64 st, .int .i64 lt, .int .i64 wi]] w (Ret (.string (bN (textF ⟨k, st, lt, wi⟩))) w) := by
  obtain ⟨i0, hi0, hz0', hz1', hz2'⟩ := info_parts infoStr
  have s0 := hok.s0
  have s1 := hok.s1
  have l0 := hok.l0
  have l1 := hok.l1
  have hwF := hok.w
  simp only at s0 s1 l0 l1 hwF
  have HD := Lib.hid (fun w' (hB : Below w.heap.size w w') => digF_any st (by omega) (by omega) w' (hDt.below hB))
  have zd := itoaF_len (n := st) (by omega) (by omega)
  have zn := fnmF_len k
  have e2 : klet k = true := by rcases hk with rfl | rfl <;> rfl
  rw [e2] at k2
  have c2 : (k == 2) = false := by rw [beq_eq_false_iff_ne]; omega
  have c5 : (k == 5) = false := by rw [beq_eq_false_iff_ne]; omega
  have HE := Lib.hid (fun w' (hB : Below w.heap.size w w') => digF_any lt (by omega) (by omega) w' (hDt.below hB))
  have ze := itoaF_len (n := lt) (by omega) (by omega)
  obtain ⟨E, hE⟩ : ∃ E, Hid (bN (Lib.itoa lt) = E) := ⟨_, Lib.hid rfl⟩
  rw [hE.out] at HE
  obtain ⟨T, hT⟩ : ∃ T, Hid (textF ⟨k, st, lt, wi⟩ = T) := ⟨_, Lib.hid rfl⟩
  have hTL : Hid (T.length ≤ 100000) := Lib.hid (by
    rw [← hT.out]
    have := joinS_len (piecesF ⟨k, st, lt, wi⟩) (fun p hp => by
      rw [show piecesF ⟨k, st, lt, wi⟩ = [fnm k, Lib.itoa st, Lib.itoa lt] from by (rcases hk with rfl | rfl <;> simp [piecesF, klet])] at hp
      simp only [List.mem_cons, List.not_mem_nil, or_false] at hp
      rcases hp with rfl | rfl | rfl <;> first | assumption | (simp; done))
    have h2 : (piecesF ⟨k, st, lt, wi⟩).length ≤ 4 := by rw [show piecesF ⟨k, st, lt, wi⟩ = [fnm k, Lib.itoa st, Lib.itoa lt] from by (rcases hk with rfl | rfl <;> simp [piecesF, klet])]; simp
    unfold textF
    omega)
  obtain ⟨NM, hNM⟩ : ∃ NM, Hid (kname k = NM) := ⟨_, Lib.hid rfl⟩
  obtain ⟨D, hD⟩ : ∃ D, Hid (bN (Lib.itoa st) = D) := ⟨_, Lib.hid rfl⟩
  have hJ : Hid (Lib.join [NM.data.toList, D.data.toList, E.data.toList] [32] = T) := Lib.hid (by
    rw [join_S, ← hT.out, ← hNM.out, ← hD.out, ← hE.out]
    unfold textF
    rw [show piecesF ⟨k, st, lt, wi⟩ = [fnm k, Lib.itoa st, Lib.itoa lt] from by (rcases hk with rfl | rfl <;> simp [piecesF, klet])]
    rfl)
  rw [hD.out] at HD
  rw [hNM.out] at k1
  rw [hT.out]
  clear zn zd hwF hk ze
  have hBB : Below w.heap.size w (w.alloc (.cells #[.int .i64 k, .int .i64 st, .int .i64 lt, .int .i64 wi] 41)) := (Below.refl _ _).alloc (Nat.le_refl _) _
  have kF := Blk.new w 41 #[.int .i64 k, .int .i64 st, .int .i64 lt, .int .i64 wi]
  have kbl := lt_of_cell k0
  have fl := kF.lt
  have k0' := cell_old (o := (.cells #[.int .i64 k, .int .i64 st, .int .i64 lt, .int .i64 wi] 41)) k0
  have k1' := cell_old (o := (.cells #[.int .i64 k, .int .i64 st, .int .i64 lt, .int .i64 wi] 41)) k1
  have k2' := cell_old (o := (.cells #[.int .i64 k, .int .i64 st, .int .i64 lt, .int .i64 wi] 41)) k2
  clear hok
  go_enter Tryz.func55, Tryz.ntmps55
  go_wp2_with fail
  have hBd : Below w.heap.size w (w.alloc (.cells #[.int .i64 k, .int .i64 st, .int .i64 lt, .int .i64 wi] 41)).drew := ⟨hBB.os, hBB.tape, hBB.output, hBB.size, hBB.block⟩
  generalize w.alloc (.cells #[.int .i64 k, .int .i64 st, .int .i64 lt, .int .i64 wi] 41) = W at *
  have kbW := lt_of_cell k0'
  have f1 := kF.cell 1 (.int .i64 st) rfl
  have f2 := kF.cell 2 (.int .i64 lt) rfl
  have f3 := kF.cell 3 (.int .i64 wi) rfl
  refine wp_region_J (fun w' => w'.cell? ⟨kb, ko + 1, none⟩ = some (.string NM) ∧ w'.cell? ⟨w.heap.size, 1, none⟩ = some (.int .i64 st)) (fun _ => True) (fun _ => false) (by kernel_rfl) ?_
  have hS1 : W.drew.cell? ⟨kb, ko + 1, none⟩ = some (.string NM) ∧ W.drew.cell? ⟨w.heap.size, 1, none⟩ = some (.int .i64 st) := ⟨k1', f1⟩
  refine wpAnyJ_take1 0 rfl (by kernel_rfl) (by kernel_rfl) rfl (by kernel_rfl) (fun _ _ _ h => h) (by rfl) hS1 (fun w' hSw => (by obtain ⟨z1, z2⟩ := hSw; go_simp; try (with_reducible rfl))) ?_
  try simp only [Act.put, List.getElem_toArray, List.getElem_cons_succ, List.getElem_cons_zero, List.setIfInBounds_toArray, List.set_cons_zero, List.set_cons_succ]
  refine wpAnyJ_take1 1 rfl (by kernel_rfl) (by kernel_rfl) rfl (by kernel_rfl) (fun _ _ _ h => h) (by rfl) hS1 (fun w' hSw => (by obtain ⟨z1, z2⟩ := hSw; go_simp; try (with_reducible rfl))) ?_
  try simp only [Act.put, List.getElem_toArray, List.getElem_cons_succ, List.getElem_cons_zero, List.setIfInBounds_toArray, List.set_cons_zero, List.set_cons_succ]
  refine wpAnyJ_take1 2 rfl (by kernel_rfl) (by kernel_rfl) rfl (by kernel_rfl) (fun _ _ _ h => h) (by rfl) hS1 (fun w' hSw => (by obtain ⟨z1, z2⟩ := hSw; go_simp; try (with_reducible rfl))) ?_
  try simp only [Act.put, List.getElem_toArray, List.getElem_cons_succ, List.getElem_cons_zero, List.setIfInBounds_toArray, List.set_cons_zero, List.set_cons_succ]
  refine wpAnyJ_take1 3 rfl (by kernel_rfl) (by kernel_rfl) rfl (by kernel_rfl) (fun _ _ _ h => h) (by rfl) hS1 (fun w' hSw => (by obtain ⟨z1, z2⟩ := hSw; go_simp; try (with_reducible rfl))) ?_
  try simp only [Act.put, List.getElem_toArray, List.getElem_cons_succ, List.getElem_cons_zero, List.setIfInBounds_toArray, List.set_cons_zero, List.set_cons_succ]
  refine wpAnyJ_take1 4 rfl (by kernel_rfl) (by kernel_rfl) rfl (by kernel_rfl) (fun _ _ _ h => h) (by rfl) hS1 (fun w' hSw => (by obtain ⟨z1, z2⟩ := hSw; go_simp; try (with_reducible rfl))) ?_
  try simp only [Act.put, List.getElem_toArray, List.getElem_cons_succ, List.getElem_cons_zero, List.setIfInBounds_toArray, List.set_cons_zero, List.set_cons_succ]
  refine wpAnyJ_take1 5 rfl (by kernel_rfl) (by kernel_rfl) rfl (by kernel_rfl) (fun _ _ _ h => h) (by rfl) hS1 (fun w' hSw => (by obtain ⟨z1, z2⟩ := hSw; go_simp; try (with_reducible rfl))) ?_
  try simp only [Act.put, List.getElem_toArray, List.getElem_cons_succ, List.getElem_cons_zero, List.setIfInBounds_toArray, List.set_cons_zero, List.set_cons_succ]
  refine wpAnyJ_ready [6] (by kernel_rfl) (by simp) (NextJ.cons rfl (fun K hK => ?_) NextJ.nil)
  go_simp
  refine (HD.out W.drew hBd).mono ?_
  rintro e w5 ⟨rfl, hB5⟩
  have kF5 := kF.drew.below' hB5
  have k05 := (hB5.cell (p := ⟨kb, ko, none⟩) kbW).trans k0'
  have k15 := (hB5.cell (p := ⟨kb, ko + 1, none⟩) kbW).trans k1'
  have k25 := (hB5.cell (p := ⟨kb, ko + 2, none⟩) kbW).trans k2'
  have r5 := below_drewW hB5
  have hS5 := And.intro k15 (kF5.cell 1 (.int .i64 st) rfl)
  go_simp
  refine hK.out _ _ hS5 (fun h => absurd h (by decide)) ?_
  clear hK K
  try simp only [Act.put, List.getElem_toArray, List.getElem_cons_succ, List.getElem_cons_zero, List.setIfInBounds_toArray, List.set_cons_zero, List.set_cons_succ]
  refine wpAnyJ_ready [7] (by kernel_rfl) (by simp) (NextJ.cons rfl (fun K hK => ?_) NextJ.nil)
  go_simp
  have hS7 := And.intro (cell_old (o := (.cells #[.string NM, .string D] 9)) k15) ((kF5.alloc (.cells #[.string NM, .string D] 9)).cell 1 (.int .i64 st) rfl)
  refine hK.out _ _ hS7 (fun h => absurd h (by decide)) ?_
  clear hK K
  try simp only [Act.put, List.getElem_toArray, List.getElem_cons_succ, List.getElem_cons_zero, List.setIfInBounds_toArray, List.set_cons_zero, List.set_cons_succ]
  refine wpAnyJ_take1 8 rfl (by kernel_rfl) (by kernel_rfl) rfl (by kernel_rfl) (fun _ _ _ h => h) (by rfl) hS7 (fun w' hSw => (by obtain ⟨z1, z2⟩ := hSw; go_simp; try (with_reducible rfl))) ?_
  try simp only [Act.put, List.getElem_toArray, List.getElem_cons_succ, List.getElem_cons_zero, List.setIfInBounds_toArray, List.set_cons_zero, List.set_cons_succ]
  refine wpAnyJ_done (by kernel_rfl) ?_ _
  clear hS1 hS5 hS7
  have k06 := cell_old (o := (.cells #[.string NM, .string D] 9)) k05
  have k26 := cell_old (o := (.cells #[.string NM, .string D] 9)) k25
  have kF6 := kF5.alloc (.cells #[.string NM, .string D] 9)
  have kS := Blk.new w5 9 #[.string NM, .string D]
  have r6 : Below W.heap.size W (w5.alloc (.cells #[.string NM, .string D] 9)) := r5.alloc r5.size _
  have ho6 : Tor.Own 1 senc (w5.alloc (.cells #[.string NM, .string D] 9)) W.heap.size 9 (.slice (some ⟨w5.heap.size, 0, none⟩) 2 2) [NM, D] := own_two r5.size kS
  have kbz : kb < (w5.alloc (.cells #[.string NM, .string D] 9)).heap.size := lt_of_cell k06
  have g2 := kF6.cell 2 (.int .i64 lt) rfl
  have g3 := kF6.cell 3 (.int .i64 wi) rfl
  have b56 := r5.size
  have hbk5 : w5.heap.size < (w5.alloc (.cells #[.string NM, .string D] 9)).heap.size := by simp
  generalize w5.alloc (.cells #[.string NM, .string D] 9) = w6 at *
  have q6 := hBB.trans (r6.mono hBB.size)
  have hs6 := r6.size
  go_wp2_with fail
  refine (HE.out _ q6).mono ?_
  rintro e w7 ⟨rfl, hB7⟩
  have r7 := r6.trans (hB7.mono r6.size)
  have hs7 := r7.size
  have ho7 := ho6.below hB7
  have k07 := (hB7.cell (p := ⟨kb, ko, none⟩) kbz).trans k06
  have kF7 := kF6.below' hB7
  have g27 := kF7.cell 2 (.int .i64 lt) rfl
  have g37 := kF7.cell 3 (.int .i64 wi) rfl
  have tk1 : True := trivial
  have tk2 : True := trivial
  go_wp2_with (first
    | (at_builtin; have := tk1; refine wpList_append_str rfl (.tmp 18) (.tmp 22) _ rfl W.heap.size _ i0 _ Tryz.underlying115 hi0 hz0' hz1' hz2' rfl _ _ rfl (ho7.alloc _) w7.heap.size E rfl (World.cell?_alloc_new _ _ _ 0) (by simp) (by simp; omega) ?_; intro v8 w8 hown8 hg8; clear tk1
       have r8 := (ho7.alloc _).grown (r7.alloc r7.size _) hg8 (by simp; omega)
       have hs8 := r8.size
       have k08 := (r8.cell (p := ⟨kb, ko, none⟩) kbW).trans k0'
       have kF8 := kF.below' r8
       have g28 := kF8.cell 2 (.int .i64 lt) rfl
       have g38 := kF8.cell 3 (.int .i64 wi) rfl
       obtain ⟨A10, c10, rfl, hc10, hr10⟩ := Own.rd str_len hown8
       obtain ⟨bk, ok, rfl, hbk, hcells⟩ := hr10 (by simp))
    | fail)
  refine (Tryz.strings_Join bk ok c10 [NM, D, E] ⟨#[32]⟩ _ (fun j x hx => (by have := hcells j x hx 0 _ rfl; simpa using this)) hbk (by simp) hc10 (by show (Lib.join ([NM, D, E].map (·.data.toList)) [32]).length ≤ _; have := hTL.out; simp only [List.map_cons, List.map_nil]; rw [hJ.out]; omega)).mono ?_
  rintro e w12 ⟨rfl, hB12⟩
  go_wp2_with fail
  go_ret
  refine ⟨?_, (hBB.trans ((r8).mono hBB.size)).trans (hB12.mono (hBB.trans ((r8).mono hBB.size)).size)⟩
  show Ending.returned (.string ⟨(Lib.join ([NM, D, E].map (·.data.toList)) [32]).toArray⟩) = _
  simp only [List.map_cons, List.map_nil]
  rw [hJ.out]
  rfl
set_option maxRecDepth 100000 in
set_option maxHeartbeats 4000000 in
theorem fwrite_C (kb ko : Nat) (k st lt wi : Int) (hk : k = 5) (hok : FOk ⟨k, st, lt, wi⟩) (w : World) (hDt : DtAt w) (k0 : w.cell? ⟨kb, ko, none⟩ = some (.int .i64 k)) (k1 : w.cell? ⟨kb, ko + 1, none⟩ = some (.string (kname k))) (k2 : w.cell? ⟨kb, ko + 2, none⟩ = some (.bool (klet k))) :
    Calls Tryz.prog 55 #[.pointer (some ⟨kb, ko, none⟩), .agg #[.int .i64 k, .int .i64 st, .int .i64 lt, .int .i64 wi]] w (Ret (.string (bN (textF ⟨k, st, lt, wi⟩))) w) := by
  obtain ⟨i0, hi0, hz0', hz1', hz2'⟩ := info_parts infoStr
  have s0 := hok.s0
  have s1 := hok.s1
  have l0 := hok.l0
  have l1 := hok.l1
  have hwF := hok.w
  simp only at s0 s1 l0 l1 hwF
  have HD := Lib.hid (fun w' (hB : Below w.heap.size w w') => digF_any st (by omega) (by omega) w' (hDt.below hB))
  have zd := itoaF_len (n := st) (by omega) (by omega)
  have zn := fnmF_len k
  have e2 : klet k = false := by rw [hk]; rfl
  rw [e2] at k2
  have c2 : (k == 2) = false := by rw [beq_eq_false_iff_ne]; omega
  have c5 : (k == 5) = true := by rw [hk]; rfl
  have hw0 : wi = -1 ∨ wi = 1 := by rw [hk] at hwF; simpa [withsL] using hwF
  have HE := Lib.hid (fun w' (hB : Below w.heap.size w w') => digF_any wi (by omega) (by omega) w' (hDt.below hB))
  have ze := itoaF_len (n := wi) (by omega) (by omega)
  obtain ⟨E, hE⟩ : ∃ E, Hid (bN (Lib.itoa wi) = E) := ⟨_, Lib.hid rfl⟩
  rw [hE.out] at HE
  obtain ⟨T, hT⟩ : ∃ T, Hid (textF ⟨k, st, lt, wi⟩ = T) := ⟨_, Lib.hid rfl⟩
  have hTL : Hid (T.length ≤ 100000) := Lib.hid (by
    rw [← hT.out]
    have := joinS_len (piecesF ⟨k, st, lt, wi⟩) (fun p hp => by
      rw [show piecesF ⟨k, st, lt, wi⟩ = [fnm k, Lib.itoa st, Lib.itoa wi] from by (subst hk; simp [piecesF, klet])] at hp
      simp only [List.mem_cons, List.not_mem_nil, or_false] at hp
      rcases hp with rfl | rfl | rfl <;> first | assumption | (simp; done))
    have h2 : (piecesF ⟨k, st, lt, wi⟩).length ≤ 4 := by rw [show piecesF ⟨k, st, lt, wi⟩ = [fnm k, Lib.itoa st, Lib.itoa wi] from by (subst hk; simp [piecesF, klet])]; simp
    unfold textF
    omega)
  obtain ⟨NM, hNM⟩ : ∃ NM, Hid (kname k = NM) := ⟨_, Lib.hid rfl⟩
  obtain ⟨D, hD⟩ : ∃ D, Hid (bN (Lib.itoa st) = D) := ⟨_, Lib.hid rfl⟩
  have hJ : Hid (Lib.join [NM.data.toList, D.data.toList, E.data.toList] [32] = T) := Lib.hid (by
    rw [join_S, ← hT.out, ← hNM.out, ← hD.out, ← hE.out]
    unfold textF
    rw [show piecesF ⟨k, st, lt, wi⟩ = [fnm k, Lib.itoa st, Lib.itoa wi] from by (subst hk; simp [piecesF, klet])]
    rfl)
  rw [hD.out] at HD
  rw [hNM.out] at k1
  rw [hT.out]
  clear zn zd hwF hk hw0 ze
  have hBB : Below w.heap.size w (w.alloc (.cells #[.int .i64 k, .int .i64 st, .int .i64 lt, .int .i64 wi] 41)) := (Below.refl _ _).alloc (Nat.le_refl _) _
  have kF := Blk.new w 41 #[.int .i64 k, .int .i64 st, .int .i64 lt, .int .i64 wi]
  have kbl := lt_of_cell k0
  have fl := kF.lt
  have k0' := cell_old (o := (.cells #[.int .i64 k, .int .i64 st, .int .i64 lt, .int .i64 wi] 41)) k0
  have k1' := cell_old (o := (.cells #[.int .i64 k, .int .i64 st, .int .i64 lt, .int .i64 wi] 41)) k1
  have k2' := cell_old (o := (.cells #[.int .i64 k, .int .i64 st, .int .i64 lt, .int .i64 wi] 41)) k2
  clear hok
  go_enter Tryz.func55, Tryz.ntmps55
  go_wp2_with fail
  have hBd : Below w.heap.size w (w.alloc (.cells #[.int .i64 k, .int .i64 st, .int .i64 lt, .int .i64 wi] 41)).drew := ⟨hBB.os, hBB.tape, hBB.output, hBB.size, hBB.block⟩
  generalize w.alloc (.cells #[.int .i64 k, .int .i64 st, .int .i64 lt, .int .i64 wi] 41) = W at *
  have kbW := lt_of_cell k0'
  have f1 := kF.cell 1 (.int .i64 st) rfl
  have f2 := kF.cell 2 (.int .i64 lt) rfl
  have f3 := kF.cell 3 (.int .i64 wi) rfl
  refine wp_region_J (fun w' => w'.cell? ⟨kb, ko + 1, none⟩ = some (.string NM) ∧ w'.cell? ⟨w.heap.size, 1, none⟩ = some (.int .i64 st)) (fun _ => True) (fun _ => false) (by kernel_rfl) ?_
  have hS1 : W.drew.cell? ⟨kb, ko + 1, none⟩ = some (.string NM) ∧ W.drew.cell? ⟨w.heap.size, 1, none⟩ = some (.int .i64 st) := ⟨k1', f1⟩
  refine wpAnyJ_take1 0 rfl (by kernel_rfl) (by kernel_rfl) rfl (by kernel_rfl) (fun _ _ _ h => h) (by rfl) hS1 (fun w' hSw => (by obtain ⟨z1, z2⟩ := hSw; go_simp; try (with_reducible rfl))) ?_
  try simp only [Act.put, List.getElem_toArray, List.getElem_cons_succ, List.getElem_cons_zero, List.setIfInBounds_toArray, List.set_cons_zero, List.set_cons_succ]
  refine wpAnyJ_take1 1 rfl (by kernel_rfl) (by kernel_rfl) rfl (by kernel_rfl) (fun _ _ _ h => h) (by rfl) hS1 (fun w' hSw => (by obtain ⟨z1, z2⟩ := hSw; go_simp; try (with_reducible rfl))) ?_
  try simp only [Act.put, List.getElem_toArray, List.getElem_cons_succ, List.getElem_cons_zero, List.setIfInBounds_toArray, List.set_cons_zero, List.set_cons_succ]
  refine wpAnyJ_take1 2 rfl (by kernel_rfl) (by kernel_rfl) rfl (by kernel_rfl) (fun _ _ _ h => h) (by rfl) hS1 (fun w' hSw => (by obtain ⟨z1, z2⟩ := hSw; go_simp; try (with_reducible rfl))) ?_
  try simp only [Act.put, List.getElem_toArray, List.getElem_cons_succ, List.getElem_cons_zero, List.setIfInBounds_toArray, List.set_cons_zero, List.set_cons_succ]
  refine wpAnyJ_take1 3 rfl (by kernel_rfl) (by kernel_rfl) rfl (by kernel_rfl) (fun _ _ _ h => h) (by rfl) hS1 (fun w' hSw => (by obtain ⟨z1, z2⟩ := hSw; go_simp; try (with_reducible rfl))) ?_
  try simp only [Act.put, List.getElem_toArray, List.getElem_cons_succ, List.getElem_cons_zero, List.setIfInBounds_toArray, List.set_cons_zero, List.set_cons_succ]
  refine wpAnyJ_take1 4 rfl (by kernel_rfl) (by kernel_rfl) rfl (by kernel_rfl) (fun _ _ _ h => h) (by rfl) hS1 (fun w' hSw => (by obtain ⟨z1, z2⟩ := hSw; go_simp; try (with_reducible rfl))) ?_
  try simp only [Act.put, List.getElem_toArray, List.getElem_cons_succ, List.getElem_cons_zero, List.setIfInBounds_toArray, List.set_cons_zero, List.set_cons_succ]
  refine wpAnyJ_take1 5 rfl (by kernel_rfl) (by kernel_rfl) rfl (by kernel_rfl) (fun _ _ _ h => h) (by rfl) hS1 (fun w' hSw => (by obtain ⟨z1, z2⟩ := hSw; go_simp; try (with_reducible rfl))) ?_
  try simp only [Act.put, List.getElem_toArray, List.getElem_cons_succ, List.getElem_cons_zero, List.setIfInBounds_toArray, List.set_cons_zero, List.set_cons_succ]
  refine wpAnyJ_ready [6] (by kernel_rfl) (by simp) (NextJ.cons rfl (fun K hK => ?_) NextJ.nil)
  go_simp
  refine (HD.out W.drew hBd).mono ?_
  rintro e w5 ⟨rfl, hB5⟩
  have kF5 := kF.drew.below' hB5
  have k05 := (hB5.cell (p := ⟨kb, ko, none⟩) kbW).trans k0'
  have k15 := (hB5.cell (p := ⟨kb, ko + 1, none⟩) kbW).trans k1'
  have k25 := (hB5.cell (p := ⟨kb, ko + 2, none⟩) kbW).trans k2'
  have r5 := below_drewW hB5
  have hS5 := And.intro k15 (kF5.cell 1 (.int .i64 st) rfl)
  go_simp
  refine hK.out _ _ hS5 (fun h => absurd h (by decide)) ?_
  clear hK K
  try simp only [Act.put, List.getElem_toArray, List.getElem_cons_succ, List.getElem_cons_zero, List.setIfInBounds_toArray, List.set_cons_zero, List.set_cons_succ]
  refine wpAnyJ_ready [7] (by kernel_rfl) (by simp) (NextJ.cons rfl (fun K hK => ?_) NextJ.nil)
  go_simp
  have hS7 := And.intro (cell_old (o := (.cells #[.string NM, .string D] 9)) k15) ((kF5.alloc (.cells #[.string NM, .string D] 9)).cell 1 (.int .i64 st) rfl)
  refine hK.out _ _ hS7 (fun h => absurd h (by decide)) ?_
  clear hK K
  try simp only [Act.put, List.getElem_toArray, List.getElem_cons_succ, List.getElem_cons_zero, List.setIfInBounds_toArray, List.set_cons_zero, List.set_cons_succ]
  refine wpAnyJ_take1 8 rfl (by kernel_rfl) (by kernel_rfl) rfl (by kernel_rfl) (fun _ _ _ h => h) (by rfl) hS7 (fun w' hSw => (by obtain ⟨z1, z2⟩ := hSw; go_simp; try (with_reducible rfl))) ?_
  try simp only [Act.put, List.getElem_toArray, List.getElem_cons_succ, List.getElem_cons_zero, List.setIfInBounds_toArray, List.set_cons_zero, List.set_cons_succ]
  refine wpAnyJ_done (by kernel_rfl) ?_ _
  clear hS1 hS5 hS7
  have k06 := cell_old (o := (.cells #[.string NM, .string D] 9)) k05
  have k26 := cell_old (o := (.cells #[.string NM, .string D] 9)) k25
  have kF6 := kF5.alloc (.cells #[.string NM, .string D] 9)
  have kS := Blk.new w5 9 #[.string NM, .string D]
  have r6 : Below W.heap.size W (w5.alloc (.cells #[.string NM, .string D] 9)) := r5.alloc r5.size _
  have ho6 : Tor.Own 1 senc (w5.alloc (.cells #[.string NM, .string D] 9)) W.heap.size 9 (.slice (some ⟨w5.heap.size, 0, none⟩) 2 2) [NM, D] := own_two r5.size kS
  have kbz : kb < (w5.alloc (.cells #[.string NM, .string D] 9)).heap.size := lt_of_cell k06
  have g2 := kF6.cell 2 (.int .i64 lt) rfl
  have g3 := kF6.cell 3 (.int .i64 wi) rfl
  have b56 := r5.size
  have hbk5 : w5.heap.size < (w5.alloc (.cells #[.string NM, .string D] 9)).heap.size := by simp
  generalize w5.alloc (.cells #[.string NM, .string D] 9) = w6 at *
  have q6 := hBB.trans (r6.mono hBB.size)
  have hs6 := r6.size
  go_wp2_with fail
  refine (HE.out _ q6).mono ?_
  rintro e w7 ⟨rfl, hB7⟩
  have r7 := r6.trans (hB7.mono r6.size)
  have hs7 := r7.size
  have ho7 := ho6.below hB7
  have k07 := (hB7.cell (p := ⟨kb, ko, none⟩) kbz).trans k06
  have kF7 := kF6.below' hB7
  have g27 := kF7.cell 2 (.int .i64 lt) rfl
  have g37 := kF7.cell 3 (.int .i64 wi) rfl
  have tk1 : True := trivial
  have tk2 : True := trivial
  go_wp2_with (first
    | (at_builtin; have := tk1; refine wpList_append_str rfl (.tmp 39) (.tmp 43) _ rfl W.heap.size _ i0 _ Tryz.underlying115 hi0 hz0' hz1' hz2' rfl _ _ rfl (ho7.alloc _) w7.heap.size E rfl (World.cell?_alloc_new _ _ _ 0) (by simp) (by simp; omega) ?_; intro v8 w8 hown8 hg8; clear tk1
       have r8 := (ho7.alloc _).grown (r7.alloc r7.size _) hg8 (by simp; omega)
       have hs8 := r8.size
       have k08 := (r8.cell (p := ⟨kb, ko, none⟩) kbW).trans k0'
       have kF8 := kF.below' r8
       have g28 := kF8.cell 2 (.int .i64 lt) rfl
       have g38 := kF8.cell 3 (.int .i64 wi) rfl
       obtain ⟨A10, c10, rfl, hc10, hr10⟩ := Own.rd str_len hown8
       obtain ⟨bk, ok, rfl, hbk, hcells⟩ := hr10 (by simp))
    | fail)
  refine (Tryz.strings_Join bk ok c10 [NM, D, E] ⟨#[32]⟩ _ (fun j x hx => (by have := hcells j x hx 0 _ rfl; simpa using this)) hbk (by simp) hc10 (by show (Lib.join ([NM, D, E].map (·.data.toList)) [32]).length ≤ _; have := hTL.out; simp only [List.map_cons, List.map_nil]; rw [hJ.out]; omega)).mono ?_
  rintro e w12 ⟨rfl, hB12⟩
  go_wp2_with fail
  go_ret
  refine ⟨?_, (hBB.trans ((r8).mono hBB.size)).trans (hB12.mono (hBB.trans ((r8).mono hBB.size)).size)⟩
  show Ending.returned (.string ⟨(Lib.join ([NM, D, E].map (·.data.toList)) [32]).toArray⟩) = _
  simp only [List.map_cons, List.map_nil]
  rw [hJ.out]
  rfl
set_option maxRecDepth 100000 in
set_option maxHeartbeats 4000000 in
theorem fwrite_B (kb ko : Nat) (k st lt wi : Int) (hk : k = 2) (hok : FOk ⟨k, st, lt, wi⟩) (w : World) (hDt : DtAt w) (k0 : w.cell? ⟨kb, ko, none⟩ = some (.int .i64 k)) (k1 : w.cell? ⟨kb, ko + 1, none⟩ = some (.string (kname k))) (k2 : w.cell? ⟨kb, ko + 2, none⟩ = some (.bool (klet k))) :
    Calls Tryz.prog 55 #[.pointer (some ⟨kb, ko, none⟩), .agg #[.int .i64 k, .int .i64 st, .int .i64 lt, .int .i64 wi]] w (Ret (.string (bN (textF ⟨k, st, lt, wi⟩))) w) := by
  obtain ⟨i0, hi0, hz0', hz1', hz2'⟩ := info_parts infoStr
  have s0 := hok.s0
  have s1 := hok.s1
  have l0 := hok.l0
  have l1 := hok.l1
  have hwF := hok.w
  simp only at s0 s1 l0 l1 hwF
  have HD := Lib.hid (fun w' (hB : Below w.heap.size w w') => digF_any st (by omega) (by omega) w' (hDt.below hB))
  have zd := itoaF_len (n := st) (by omega) (by omega)
  have zn := fnmF_len k
  have e2 : klet k = true := by rw [hk]; rfl
  rw [e2] at k2
  have c2 : (k == 2) = true := by rw [hk]; rfl
  have c5 : (k == 5) = false := by rw [beq_eq_false_iff_ne]; omega
  have hw0 : wi ∈ faultLetters := by rw [hk] at hwF; simpa [withsL] using hwF
  obtain ⟨C, hC⟩ : ∃ C, Hid (bN [UInt8.ofNat wi.toNat] = C) := ⟨_, Lib.hid rfl⟩
  have hwr : IntKind.i32.wrap wi = wi := by
    simp only [faultLetters, List.mem_cons, List.not_mem_nil, or_false] at hw0
    rcases hw0 with rfl | rfl | rfl | rfl | rfl | rfl | rfl | rfl | rfl <;> decide
  have hU : Utf8.encode wi = C := by
    rw [← hC.out]
    simp only [faultLetters, List.mem_cons, List.not_mem_nil, or_false] at hw0
    rcases hw0 with rfl | rfl | rfl | rfl | rfl | rfl | rfl | rfl | rfl <;> decide +kernel
  have HE := Lib.hid (fun w' (hB : Below w.heap.size w w') => digF_any lt (by omega) (by omega) w' (hDt.below hB))
  have ze := itoaF_len (n := lt) (by omega) (by omega)
  obtain ⟨E, hE⟩ : ∃ E, Hid (bN (Lib.itoa lt) = E) := ⟨_, Lib.hid rfl⟩
  rw [hE.out] at HE
  obtain ⟨T, hT⟩ : ∃ T, Hid (textF ⟨k, st, lt, wi⟩ = T) := ⟨_, Lib.hid rfl⟩
  have hTL : Hid (T.length ≤ 100000) := Lib.hid (by
    rw [← hT.out]
    have := joinS_len (piecesF ⟨k, st, lt, wi⟩) (fun p hp => by
      rw [show piecesF ⟨k, st, lt, wi⟩ = [fnm k, Lib.itoa st, Lib.itoa lt, [UInt8.ofNat wi.toNat]] from by (subst hk; simp [piecesF, klet])] at hp
      simp only [List.mem_cons, List.not_mem_nil, or_false] at hp
      rcases hp with rfl | rfl | rfl | rfl <;> first | assumption | (simp; done))
    have h2 : (piecesF ⟨k, st, lt, wi⟩).length ≤ 4 := by rw [show piecesF ⟨k, st, lt, wi⟩ = [fnm k, Lib.itoa st, Lib.itoa lt, [UInt8.ofNat wi.toNat]] from by (subst hk; simp [piecesF, klet])]; simp
    unfold textF
    omega)
  obtain ⟨NM, hNM⟩ : ∃ NM, Hid (kname k = NM) := ⟨_, Lib.hid rfl⟩
  obtain ⟨D, hD⟩ : ∃ D, Hid (bN (Lib.itoa st) = D) := ⟨_, Lib.hid rfl⟩
  have hJ : Hid (Lib.join [NM.data.toList, D.data.toList, E.data.toList, C.data.toList] [32] = T) := Lib.hid (by
    rw [join_S, ← hT.out, ← hNM.out, ← hD.out, ← hE.out, ← hC.out]
    unfold textF
    rw [show piecesF ⟨k, st, lt, wi⟩ = [fnm k, Lib.itoa st, Lib.itoa lt, [UInt8.ofNat wi.toNat]] from by (subst hk; simp [piecesF, klet])]
    rfl)
  rw [hD.out] at HD
  rw [hNM.out] at k1
  rw [hT.out]
  clear zn zd hwF hk hw0 ze
  have hBB : Below w.heap.size w (w.alloc (.cells #[.int .i64 k, .int .i64 st, .int .i64 lt, .int .i64 wi] 41)) := (Below.refl _ _).alloc (Nat.le_refl _) _
  have kF := Blk.new w 41 #[.int .i64 k, .int .i64 st, .int .i64 lt, .int .i64 wi]
  have kbl := lt_of_cell k0
  have fl := kF.lt
  have k0' := cell_old (o := (.cells #[.int .i64 k, .int .i64 st, .int .i64 lt, .int .i64 wi] 41)) k0
  have k1' := cell_old (o := (.cells #[.int .i64 k, .int .i64 st, .int .i64 lt, .int .i64 wi] 41)) k1
  have k2' := cell_old (o := (.cells #[.int .i64 k, .int .i64 st, .int .i64 lt, .int .i64 wi] 41)) k2
  clear hok
  go_enter Tryz.func55, Tryz.ntmps55
  go_wp2_with fail
  have hBd : Below w.heap.size w (w.alloc (.cells #[.int .i64 k, .int .i64 st, .int .i64 lt, .int .i64 wi] 41)).drew := ⟨hBB.os, hBB.tape, hBB.output, hBB.size, hBB.block⟩
  generalize w.alloc (.cells #[.int .i64 k, .int .i64 st, .int .i64 lt, .int .i64 wi] 41) = W at *
  have kbW := lt_of_cell k0'
  have f1 := kF.cell 1 (.int .i64 st) rfl
  have f2 := kF.cell 2 (.int .i64 lt) rfl
  have f3 := kF.cell 3 (.int .i64 wi) rfl
  refine wp_region_J (fun w' => w'.cell? ⟨kb, ko + 1, none⟩ = some (.string NM) ∧ w'.cell? ⟨w.heap.size, 1, none⟩ = some (.int .i64 st)) (fun _ => True) (fun _ => false) (by kernel_rfl) ?_
  have hS1 : W.drew.cell? ⟨kb, ko + 1, none⟩ = some (.string NM) ∧ W.drew.cell? ⟨w.heap.size, 1, none⟩ = some (.int .i64 st) := ⟨k1', f1⟩
  refine wpAnyJ_take1 0 rfl (by kernel_rfl) (by kernel_rfl) rfl (by kernel_rfl) (fun _ _ _ h => h) (by rfl) hS1 (fun w' hSw => (by obtain ⟨z1, z2⟩ := hSw; go_simp; try (with_reducible rfl))) ?_
  try simp only [Act.put, List.getElem_toArray, List.getElem_cons_succ, List.getElem_cons_zero, List.setIfInBounds_toArray, List.set_cons_zero, List.set_cons_succ]
  refine wpAnyJ_take1 1 rfl (by kernel_rfl) (by kernel_rfl) rfl (by kernel_rfl) (fun _ _ _ h => h) (by rfl) hS1 (fun w' hSw => (by obtain ⟨z1, z2⟩ := hSw; go_simp; try (with_reducible rfl))) ?_
  try simp only [Act.put, List.getElem_toArray, List.getElem_cons_succ, List.getElem_cons_zero, List.setIfInBounds_toArray, List.set_cons_zero, List.set_cons_succ]
  refine wpAnyJ_take1 2 rfl (by kernel_rfl) (by kernel_rfl) rfl (by kernel_rfl) (fun _ _ _ h => h) (by rfl) hS1 (fun w' hSw => (by obtain ⟨z1, z2⟩ := hSw; go_simp; try (with_reducible rfl))) ?_
  try simp only [Act.put, List.getElem_toArray, List.getElem_cons_succ, List.getElem_cons_zero, List.setIfInBounds_toArray, List.set_cons_zero, List.set_cons_succ]
  refine wpAnyJ_take1 3 rfl (by kernel_rfl) (by kernel_rfl) rfl (by kernel_rfl) (fun _ _ _ h => h) (by rfl) hS1 (fun w' hSw => (by obtain ⟨z1, z2⟩ := hSw; go_simp; try (with_reducible rfl))) ?_
  try simp only [Act.put, List.getElem_toArray, List.getElem_cons_succ, List.getElem_cons_zero, List.setIfInBounds_toArray, List.set_cons_zero, List.set_cons_succ]
  refine wpAnyJ_take1 4 rfl (by kernel_rfl) (by kernel_rfl) rfl (by kernel_rfl) (fun _ _ _ h => h) (by rfl) hS1 (fun w' hSw => (by obtain ⟨z1, z2⟩ := hSw; go_simp; try (with_reducible rfl))) ?_
  try simp only [Act.put, List.getElem_toArray, List.getElem_cons_succ, List.getElem_cons_zero, List.setIfInBounds_toArray, List.set_cons_zero, List.set_cons_succ]
  refine wpAnyJ_take1 5 rfl (by kernel_rfl) (by kernel_rfl) rfl (by kernel_rfl) (fun _ _ _ h => h) (by rfl) hS1 (fun w' hSw => (by obtain ⟨z1, z2⟩ := hSw; go_simp; try (with_reducible rfl))) ?_
  try simp only [Act.put, List.getElem_toArray, List.getElem_cons_succ, List.getElem_cons_zero, List.setIfInBounds_toArray, List.set_cons_zero, List.set_cons_succ]
  refine wpAnyJ_ready [6] (by kernel_rfl) (by simp) (NextJ.cons rfl (fun K hK => ?_) NextJ.nil)
  go_simp
  refine (HD.out W.drew hBd).mono ?_
  rintro e w5 ⟨rfl, hB5⟩
  have kF5 := kF.drew.below' hB5
  have k05 := (hB5.cell (p := ⟨kb, ko, none⟩) kbW).trans k0'
  have k15 := (hB5.cell (p := ⟨kb, ko + 1, none⟩) kbW).trans k1'
  have k25 := (hB5.cell (p := ⟨kb, ko + 2, none⟩) kbW).trans k2'
  have r5 := below_drewW hB5
  have hS5 := And.intro k15 (kF5.cell 1 (.int .i64 st) rfl)
  go_simp
  refine hK.out _ _ hS5 (fun h => absurd h (by decide)) ?_
  clear hK K
  try simp only [Act.put, List.getElem_toArray, List.getElem_cons_succ, List.getElem_cons_zero, List.setIfInBounds_toArray, List.set_cons_zero, List.set_cons_succ]
  refine wpAnyJ_ready [7] (by kernel_rfl) (by simp) (NextJ.cons rfl (fun K hK => ?_) NextJ.nil)
  go_simp
  have hS7 := And.intro (cell_old (o := (.cells #[.string NM, .string D] 9)) k15) ((kF5.alloc (.cells #[.string NM, .string D] 9)).cell 1 (.int .i64 st) rfl)
  refine hK.out _ _ hS7 (fun h => absurd h (by decide)) ?_
  clear hK K
  try simp only [Act.put, List.getElem_toArray, List.getElem_cons_succ, List.getElem_cons_zero, List.setIfInBounds_toArray, List.set_cons_zero, List.set_cons_succ]
  refine wpAnyJ_take1 8 rfl (by kernel_rfl) (by kernel_rfl) rfl (by kernel_rfl) (fun _ _ _ h => h) (by rfl) hS7 (fun w' hSw => (by obtain ⟨z1, z2⟩ := hSw; go_simp; try (with_reducible rfl))) ?_
  try simp only [Act.put, List.getElem_toArray, List.getElem_cons_succ, List.getElem_cons_zero, List.setIfInBounds_toArray, List.set_cons_zero, List.set_cons_succ]
  refine wpAnyJ_done (by kernel_rfl) ?_ _
  clear hS1 hS5 hS7
  have k06 := cell_old (o := (.cells #[.string NM, .string D] 9)) k05
  have k26 := cell_old (o := (.cells #[.string NM, .string D] 9)) k25
  have kF6 := kF5.alloc (.cells #[.string NM, .string D] 9)
  have kS := Blk.new w5 9 #[.string NM, .string D]
  have r6 : Below W.heap.size W (w5.alloc (.cells #[.string NM, .string D] 9)) := r5.alloc r5.size _
  have ho6 : Tor.Own 1 senc (w5.alloc (.cells #[.string NM, .string D] 9)) W.heap.size 9 (.slice (some ⟨w5.heap.size, 0, none⟩) 2 2) [NM, D] := own_two r5.size kS
  have kbz : kb < (w5.alloc (.cells #[.string NM, .string D] 9)).heap.size := lt_of_cell k06
  have g2 := kF6.cell 2 (.int .i64 lt) rfl
  have g3 := kF6.cell 3 (.int .i64 wi) rfl
  have b56 := r5.size
  have hbk5 : w5.heap.size < (w5.alloc (.cells #[.string NM, .string D] 9)).heap.size := by simp
  generalize w5.alloc (.cells #[.string NM, .string D] 9) = w6 at *
  have q6 := hBB.trans (r6.mono hBB.size)
  have hs6 := r6.size
  go_wp2_with fail
  refine (HE.out _ q6).mono ?_
  rintro e w7 ⟨rfl, hB7⟩
  have r7 := r6.trans (hB7.mono r6.size)
  have hs7 := r7.size
  have ho7 := ho6.below hB7
  have k07 := (hB7.cell (p := ⟨kb, ko, none⟩) kbz).trans k06
  have kF7 := kF6.below' hB7
  have g27 := kF7.cell 2 (.int .i64 lt) rfl
  have g37 := kF7.cell 3 (.int .i64 wi) rfl
  have tk1 : True := trivial
  have tk2 : True := trivial
  go_wp2_with (first
    | (at_builtin; have := tk1; refine wpList_append_str rfl (.tmp 18) (.tmp 22) _ rfl W.heap.size _ i0 _ Tryz.underlying115 hi0 hz0' hz1' hz2' rfl _ _ rfl (ho7.alloc _) w7.heap.size E rfl (World.cell?_alloc_new _ _ _ 0) (by simp) (by simp; omega) ?_; intro v8 w8 hown8 hg8; clear tk1
       have r8 := (ho7.alloc _).grown (r7.alloc r7.size _) hg8 (by simp; omega)
       have hs8 := r8.size
       have k08 := (r8.cell (p := ⟨kb, ko, none⟩) kbW).trans k0'
       have kF8 := kF.below' r8
       have g28 := kF8.cell 2 (.int .i64 lt) rfl
       have g38 := kF8.cell 3 (.int .i64 wi) rfl
       obtain ⟨A8, c8, rfl, _, _⟩ := Own.rd str_len hown8)
    | (at_builtin; have := tk2; refine wpList_append_str rfl (.tmp 30) (.tmp 35) _ rfl W.heap.size _ i0 _ Tryz.underlying115 hi0 hz0' hz1' hz2' rfl _ _ rfl (hown8.alloc _) w8.heap.size C rfl (World.cell?_alloc_new _ _ _ 0) (by simp) (by simp; omega) ?_; intro v9 w9 hown9 hg9; clear tk2
       have r9 := (hown8.alloc _).grown (r8.alloc r8.size _) hg9 (by simp; omega)
       have hs9 := r9.size
       have k09 := (r9.cell (p := ⟨kb, ko, none⟩) kbW).trans k0'
       have kF9 := kF.below' r9
       have g29 := kF9.cell 2 (.int .i64 lt) rfl
       have g39 := kF9.cell 3 (.int .i64 wi) rfl
       obtain ⟨A10, c10, rfl, hc10, hr10⟩ := Own.rd str_len hown9
       obtain ⟨bk, ok, rfl, hbk, hcells⟩ := hr10 (by simp))
    | fail)
  refine (Tryz.strings_Join bk ok c10 [NM, D, E, C] ⟨#[32]⟩ _ (fun j x hx => (by have := hcells j x hx 0 _ rfl; simpa using this)) hbk (by simp) hc10 (by show (Lib.join ([NM, D, E, C].map (·.data.toList)) [32]).length ≤ _; have := hTL.out; simp only [List.map_cons, List.map_nil]; rw [hJ.out]; omega)).mono ?_
  rintro e w12 ⟨rfl, hB12⟩
  go_wp2_with fail
  go_ret
  refine ⟨?_, (hBB.trans ((r9).mono hBB.size)).trans (hB12.mono (hBB.trans ((r9).mono hBB.size)).size)⟩
  show Ending.returned (.string ⟨(Lib.join ([NM, D, E, C].map (·.data.toList)) [32]).toArray⟩) = _
  simp only [List.map_cons, List.map_nil]
  rw [hJ.out]
  rfl
theorem fwrite_any (kb ko : Nat) (k st lt wi : Int) (hok : FOk ⟨k, st, lt, wi⟩) (w : World) (hDt : DtAt w) (k0 : w.cell? ⟨kb, ko, none⟩ = some (.int .i64 k)) (k1 : w.cell? ⟨kb, ko + 1, none⟩ = some (.string (kname k))) (k2 : w.cell? ⟨kb, ko + 2, none⟩ = some (.bool (klet k))) :
    Calls Tryz.prog 55 #[.pointer (some ⟨kb, ko, none⟩), .agg #[.int .i64 k, .int .i64 st, .int .i64 lt, .int .i64 wi]] w (Ret (.string (bN (textF ⟨k, st, lt, wi⟩))) w) := by
  have hk := hok.k
  simp only at hk
  rcases (show k = 1 ∨ k = 2 ∨ k = 3 ∨ k = 4 ∨ k = 5 ∨ k = 6 by omega) with h | h | h | h | h | h
  · exact fwrite_A kb ko k st lt wi (.inl h) hok w hDt k0 k1 k2
  · exact fwrite_B kb ko k st lt wi h hok w hDt k0 k1 k2
  · exact fwrite_A kb ko k st lt wi (.inr h) hok w hDt k0 k1 k2
  · exact fwrite_D kb ko k st lt wi (.inl h) hok w hDt k0 k1 k2
  · exact fwrite_C kb ko k st lt wi h hok w hDt k0 k1 k2
  · exact fwrite_D kb ko k st lt wi (.inr h) hok w hDt k0 k1 k2
end Go.Proofs.YtmfklcnocekdlaaGreatDoor

