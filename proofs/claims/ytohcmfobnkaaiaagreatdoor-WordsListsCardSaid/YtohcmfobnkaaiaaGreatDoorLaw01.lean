/- torchonlaw01: the comparisons. -/
import Derived.Test.YtohcmfobnkaaiaaGreatDoorWQuote
import Derived.Test.YtohcmfobnkaaiaaGreatDoorOldA
set_option linter.unusedSimpArgs false
set_option linter.unusedVariables false
namespace Go.Proofs.YtohcmfobnkaaiaaGreatDoor
open Go Go.RowKit Tor

set_option maxRecDepth 100000 in
set_option maxHeartbeats 2000000 in
theorem lints_any (A A' : Option Addr) (l m : List Int) (c c' : Nat) (w : World) (h1 : RdI w w.heap.size A l) (h2 : RdI w w.heap.size A' m) (hl : l.length ≤ 1000000) (hm : m.length ≤ 1000000) :
    Calls Tryz.prog 9 #[.slice A l.length c, .slice A' m.length c'] w (Ret (.bool (decide (l = m))) w) := by
  by_cases hlen : l.length = m.length
  · have a1 : ((l.length : Int) != (m.length : Int)) = false := by rw [hlen]; simp
    obtain ⟨r, hr⟩ : ∃ r, Hid (decide (l = m) = r) := ⟨_, Lib.hid rfl⟩
    rw [hr.out]
    have HL := Lib.hid hlen
    have hlm : m.length ≤ l.length := by omega
    have hml : l.length ≤ m.length := by omega
    clear hlen
    go_enter Tryz.func9, Tryz.ntmps9
    go_wp2_with fail
    go_loopw [5] (fun i wr => ∃ j : Nat, j ≤ l.length ∧ i = .int .i64 j ∧ Hid (l.take j = m.take j) ∧ Below w.heap.size w wr) (fun i _ => l.length - (intOf i).toNat)
    case atStart => exact ⟨0, Nat.zero_le _, rfl, Lib.hid (by simp), Below.refl _ _⟩
    case round =>
      obtain ⟨j, hj, rfl, hp, hB⟩ := hrel
      by_cases hlt : j < l.length
      · have hlt' : j < m.length := by omega
        obtain ⟨b, o, rfl, hb, hc⟩ := Rd.int h1 hlt
        obtain ⟨b', o', rfl, hb', hc'⟩ := Rd.int h2 hlt'
        have a2 : (j : Int) < (l.length : Int) := by omega
        have a3 : (j : Int) < (m.length : Int) := by omega
        obtain ⟨x, hx⟩ : ∃ x, Hid (l[j] = x) := ⟨_, Lib.hid rfl⟩
        obtain ⟨y, hy⟩ : ∃ y, Hid (m[j] = y) := ⟨_, Lib.hid rfl⟩
        have q1 := (hB.cell (p := ⟨b, o + j, none⟩) hb).trans hc
        have q2 := (hB.cell (p := ⟨b', o' + j, none⟩) hb').trans hc'
        rw [hx.out] at q1
        rw [hy.out] at q2
        clear hc hc'
        by_cases hxy : x = y
        · have e1 : (x != y) = false := by rw [hxy]; simp
          have e2 : decide (x = y) = true := decide_eq_true hxy
          have HX := Lib.hid hxy
          clear hxy
          go_wp2_with fail
          go_quiet (fail)
          go_wp2_with fail
          go_roundw
          case rel => exact ⟨j + 1, by omega, by go_num, Lib.hid (by rw [take_snoc l j hlt, take_snoc m j hlt', hp.out, hx.out, hy.out, HX.out]), hB.drewN nq⟩
          case measure => simp [intOf]; omega
        · have e1 : (x != y) = true := by simpa using hxy
          have e2 : decide (x = y) = false := decide_eq_false hxy
          have hrf : Hid (r = false) := by
            rw [Hid, ← hr.out]; exact decide_eq_false (fun e => hxy (by rw [← hx.out, ← hy.out]; simp [e]))
          clear hxy
          go_wp2_with fail
          go_quiet (fail)
          go_wp2_with fail
          go_ret
          rw [hrf.out]
          exact ⟨rfl, hB.drewN nq⟩
      · obtain rfl : j = l.length := by omega
        have hrt : Hid (r = true) := by
          have := hp.out
          rw [List.take_length, HL.out, List.take_length] at this
          rw [Hid, ← hr.out]; exact decide_eq_true this
        go_wp2_with fail
        go_ret
        rw [hrt.out]
        exact ⟨rfl, hB⟩
  · have a1 : ((l.length : Int) != (m.length : Int)) = true := by simp; omega
    rw [decide_eq_false (fun e => hlen (by rw [e]))]
    clear hlen
    go_enter Tryz.func9, Tryz.ntmps9
    go_wp2_with fail
    go_ret
    exact ⟨rfl, Below.refl _ _⟩

theorem _root_.Tor.Rd.fld {w : World} {B : Nat} {A : Option Addr} {l : List Fld} (h : Rd 2 fenc w B A l) {k : Nat} (hk : k < l.length) :
    ∃ b o, A = some ⟨b, o, none⟩ ∧ b < B ∧ w.cell? ⟨b, o + k * 2, none⟩ = some (.bool l[k].q) ∧ w.cell? ⟨b, o + k * 2 + 1, none⟩ = some (.string (bN l[k].s)) := by
  obtain ⟨b, o, e, hb, hc⟩ := h (by intro e; subst e; simp at hk)
  have hx : l[k]? = some l[k] := List.getElem?_eq_getElem hk
  exact ⟨b, o, e, hb, hc k _ hx 0 _ rfl, hc k _ hx 1 _ rfl⟩
set_option maxRecDepth 100000 in
set_option maxHeartbeats 2000000 in
theorem lalike_any (A A' : Option Addr) (l m : List Fld) (c c' : Nat) (w : World) (h1 : Rd 2 fenc w w.heap.size A l) (h2 : Rd 2 fenc w w.heap.size A' m) (hl : l.length ≤ 1000000) (hm : m.length ≤ 1000000) :
    Calls Tryz.prog 12 #[.slice A l.length c, .slice A' m.length c'] w (Ret (.bool (decide (l = m))) w) := by
  by_cases hlen : l.length = m.length
  · have a1 : ((l.length : Int) != (m.length : Int)) = false := by rw [hlen]; simp
    obtain ⟨r, hr⟩ : ∃ r, Hid (decide (l = m) = r) := ⟨_, Lib.hid rfl⟩
    rw [hr.out]
    have HL := Lib.hid hlen
    have hlm : m.length ≤ l.length := by omega
    have hml : l.length ≤ m.length := by omega
    clear hlen
    go_enter Tryz.func12, Tryz.ntmps12
    go_wp2_with fail
    go_loopw [5] (fun i wr => ∃ j : Nat, j ≤ l.length ∧ i = .int .i64 j ∧ Hid (l.take j = m.take j) ∧ Below w.heap.size w wr) (fun i _ => l.length - (intOf i).toNat)
    case atStart => exact ⟨0, Nat.zero_le _, rfl, Lib.hid (by simp), Below.refl _ _⟩
    case round =>
      obtain ⟨j, hj, rfl, hp, hB⟩ := hrel
      by_cases hlt : j < l.length
      · have hlt' : j < m.length := by omega
        obtain ⟨b, o, rfl, hb, hc0, hc1⟩ := Rd.fld h1 hlt
        obtain ⟨b', o', rfl, hb', hd0, hd1⟩ := Rd.fld h2 hlt'
        have a2 : (j : Int) < (l.length : Int) := by omega
        have a3 : (j : Int) < (m.length : Int) := by omega
        obtain ⟨xq, hxq⟩ : ∃ x, Hid (l[j].q = x) := ⟨_, Lib.hid rfl⟩
        obtain ⟨xs, hxs⟩ : ∃ x, Hid (l[j].s = x) := ⟨_, Lib.hid rfl⟩
        obtain ⟨yq, hyq⟩ : ∃ x, Hid (m[j].q = x) := ⟨_, Lib.hid rfl⟩
        obtain ⟨ys, hys⟩ : ∃ x, Hid (m[j].s = x) := ⟨_, Lib.hid rfl⟩
        have q1 := (hB.cell (p := ⟨b, o + j * 2, none⟩) hb).trans hc0
        have q2 := (hB.cell (p := ⟨b, o + j * 2 + 1, none⟩) hb).trans hc1
        have q3 := (hB.cell (p := ⟨b', o' + j * 2, none⟩) hb').trans hd0
        have q4 := (hB.cell (p := ⟨b', o' + j * 2 + 1, none⟩) hb').trans hd1
        rw [hxq.out] at q1
        rw [hxs.out] at q2
        rw [hyq.out] at q3
        rw [hys.out] at q4
        clear hc0 hc1 hd0 hd1
        have hlj : l[j] = ⟨xq, xs⟩ := by rw [← hxq.out, ← hxs.out]
        have hmj : m[j] = ⟨yq, ys⟩ := by rw [← hyq.out, ← hys.out]
        have tx : (bN xs).toList = xs := Lib.toList_data _
        have ty : (bN ys).toList = ys := Lib.toList_data _
        have HLJ := Lib.hid hlj
        have HMJ := Lib.hid hmj
        clear hlj hmj
        by_cases hxy : xq = yq ∧ xs = ys
        · obtain ⟨rfl, rfl⟩ := hxy
          go_wp2_with fail
          go_quiet (fail)
          go_wp2_with fail
          go_roundw
          case rel => exact ⟨j + 1, by omega, by go_num, Lib.hid (by rw [take_snoc l j hlt, take_snoc m j hlt', hp.out, HLJ.out, HMJ.out]), hB.drewN nq⟩
          case measure => simp [intOf]; omega
        · have hrf : Hid (r = false) := by
            rw [Hid, ← hr.out]
            refine decide_eq_false (fun e => hxy ?_)
            have h3 : l[j] = m[j] := by simp [e]
            rw [HLJ.out, HMJ.out, Fld.mk.injEq] at h3
            exact h3
          by_cases hq : xq = yq
          · subst hq
            have hs : xs ≠ ys := fun e => hxy ⟨rfl, e⟩
            have e1 : (xs == ys) = false := beq_eq_false_iff_ne.2 hs
            have e2 : decide (xs = ys) = false := decide_eq_false hs
            clear hxy hs
            go_wp2_with fail
            go_quiet (fail)
            go_wp2_with fail
            go_ret
            rw [hrf.out]
            exact ⟨rfl, hB.drewN nq⟩
          · have e1 : (xq == yq) = false := beq_eq_false_iff_ne.2 hq
            have e2 : decide (xq = yq) = false := decide_eq_false hq
            clear hxy hq
            go_wp2_with fail
            go_quiet (fail)
            go_wp2_with fail
            go_ret
            rw [hrf.out]
            exact ⟨rfl, hB.drewN nq⟩
      · obtain rfl : j = l.length := by omega
        have hrt : Hid (r = true) := by
          have := hp.out
          rw [List.take_length, HL.out, List.take_length] at this
          rw [Hid, ← hr.out]; exact decide_eq_true this
        go_wp2_with fail
        go_ret
        rw [hrt.out]
        exact ⟨rfl, hB⟩
  · have a1 : ((l.length : Int) != (m.length : Int)) = true := by simp; omega
    rw [decide_eq_false (fun e => hlen (by rw [e]))]
    clear hlen
    go_enter Tryz.func12, Tryz.ntmps12
    go_wp2_with fail
    go_ret
    exact ⟨rfl, Below.refl _ _⟩
/-! ### fields -/
theorem infoRFld : (Tryz.prog.info? 39).map (fun i => (i.zero, i.size, i.bytes)) = some (some (.agg #[.bool false, .string ByteArray.empty]), 2, 24) := by kernel_rfl
theorem step_append_enc {α : Type} {sz byt : Nat} {enc : α → List Value} (hln : ∀ x, (enc x).length = sz) (hone : ∀ x, ∀ u ∈ enc x, u.oneCell' = true) (hpos : 0 < sz) (hb1 : byt ≤ 1000)
    {P : Program} {ops : Array Oper} {o : Oper} {a : Act} {K : Act → World → Prop} {Q : Exit → Act → World → Prop} {E : Prop} {w : World} (hgd : o.guard = none) (s x : Operand) (t : TypeId)
    (ho : o.op = .call { callee := .builtin .append, args := #[s, x], argTypes := #[t, t] })
    (base : Nat) (e : TypeId) (i : TypeInfo) (z : Value) (ht : P.underlying t = some (.slice e)) (hi : P.info? e = some i) (hz : i.zero = some z)
    (hsize : i.size = sz) (hby : i.bytes = byt) (hzs : z.cells.size = sz)
    (v : Value) (l : List α) (hs : a.eval s = v) (hown : Own sz enc w base e v l)
    (g : Nat) (y : α) (hx : a.eval x = .slice (some ⟨g, 0, none⟩) 1 1) (hc : ∀ j u, (enc y)[j]? = some u → w.cell? ⟨g, j, none⟩ = some u)
    (hlen : l.length ≤ 1000000) (hbase : base ≤ w.heap.size)
    (h : ∀ v' w', Own sz enc w' base e v' (l ++ [y]) → w.grownBy w' v.ownBlock → K (a.put o.dst v') w') :
    if Region.wanted o (yielded ops a.tmps) = true then Oper.wp P o a w K Q else E := by
  have hw : Region.wanted o (yielded ops a.tmps) = true := by simp [Region.wanted, hgd]
  rw [if_pos hw]
  have hb : (l.length + 1) * byt ≤ 140737488355328 := Nat.le_trans (Nat.mul_le_mul (show l.length + 1 ≤ 1000001 by omega) hb1) (by omega)
  refine wp_append_own w s x t ho base e i z sz byt ht hi hz hsize hby hzs hpos v l.length (l.flatMap enc) hs hown ⟨g, 0, none⟩ 1 1 (enc y) hx (by rw [hln]; omega) ?_ (hone y) (by unfold maxLen; omega) hb hbase
    (fun v' w' a b _ => h v' w' (Own.append1 (hln y) a) b)
  intro j u hu
  have e : (⟨g, 0, none⟩ : Addr).add j = ⟨g, j, none⟩ := by
    unfold Addr.add
    split
    · rename_i h; subst h; rfl
    · simp
  rw [e]
  exact hc j u hu

/-- the fields of the reference that are returned -/
def RFldRet (w : World) (l : List Fld) (e : Ending) (w' : World) : Prop := ∃ v, e = .returned v ∧ Own 2 fenc w' w.heap.size 39 v l ∧ Below w.heap.size w w'
set_option maxRecDepth 100000 in
set_option maxHeartbeats 4000000 in
theorem lfields_any (A : Option Addr) (l : List Fld) (c : Nat) (w : World) (h1 : Rd 2 fenc w w.heap.size A l) (hl : l.length ≤ 1000000) :
    Calls Tryz.prog 13 #[.slice A l.length c] w (RFldRet w l) := by
  obtain ⟨i0, hi0, hz0', hz1', hz2'⟩ := info_parts infoRFld
  go_enter Tryz.func13, Tryz.ntmps13
  go_wp2_with fail
  go_loopw [3, 4] (fun ov i wr => ∃ j : Nat, j ≤ l.length ∧ i = .int .i64 j ∧ Own 2 fenc wr w.heap.size 39 ov (l.take j) ∧ Below w.heap.size w wr) (fun _ i _ => l.length - (intOf i).toNat)
  case atStart => exact ⟨0, Nat.zero_le _, rfl, by simpa using Own.nil _ _ _, Below.refl _ _⟩
  case round =>
    obtain ⟨j, hj, rfl, ho, hB⟩ := hrel
    obtain ⟨W, rfl⟩ : ∃ wo : World, wo = wr := ⟨_, rfl⟩
    have htk : (l.take j).length = j := by rw [List.length_take]; omega
    obtain ⟨Av, cv, rfl, _, _⟩ := Own.rd fenc_len ho
    rw [htk] at ho ⊢
    by_cases hlt : j < l.length
    · obtain ⟨b, o, rfl, hb, hc0, hc1⟩ := Rd.fld h1 hlt
      have a2 : (j : Int) < (l.length : Int) := by omega
      have hsn := Lib.hid (take_snoc l j hlt)
      obtain ⟨x, hx⟩ : ∃ x, Hid (l[j] = x) := ⟨_, Lib.hid rfl⟩
      have hsx := hsn.out
      rw [hx.out] at hc0 hc1 hsx
      have HSX := Lib.hid hsx
      clear hsx
      have hS1 : W.drew.cell? ⟨b, o + j * 2, none⟩ = some (.bool x.q) ∧ W.drew.cell? ⟨b, o + j * 2 + 1, none⟩ = some (.string (bN x.s)) :=
        ⟨(hB.cell (p := ⟨b, o + j * 2, none⟩) hb).trans hc0, (hB.cell (p := ⟨b, o + j * 2 + 1, none⟩) hb).trans hc1⟩
      have hs1 := hB.size
      go_wp2_with fail
      refine wp_region_J (fun w' => w'.cell? ⟨b, o + j * 2, none⟩ = some (.bool x.q) ∧ w'.cell? ⟨b, o + j * 2 + 1, none⟩ = some (.string (bN x.s))) (fun _ => True) (fun _ => false) (by kernel_rfl) ?_
      refine wpAnyJ_take1 0 rfl (by kernel_rfl) (by kernel_rfl) rfl (by kernel_rfl) (fun _ _ _ h => h) (by rfl) hS1 (fun w' hSw => (by obtain ⟨z1, z2⟩ := hSw; go_simp; try (with_reducible rfl))) ?_
      try simp only [Act.put, List.getElem_toArray, List.getElem_cons_succ, List.getElem_cons_zero, List.setIfInBounds_toArray, List.set_cons_zero, List.set_cons_succ]
      refine wpAnyJ_take1 1 rfl (by kernel_rfl) (by kernel_rfl) rfl (by kernel_rfl) (fun _ _ _ h => h) (by rfl) hS1 (fun w' hSw => (by obtain ⟨z1, z2⟩ := hSw; go_simp; try (with_reducible rfl))) ?_
      try simp only [Act.put, List.getElem_toArray, List.getElem_cons_succ, List.getElem_cons_zero, List.setIfInBounds_toArray, List.set_cons_zero, List.set_cons_succ]
      refine wpAnyJ_take1 2 rfl (by kernel_rfl) (by kernel_rfl) rfl (by kernel_rfl) (fun _ _ _ h => h) (by rfl) hS1 (fun w' hSw => (by obtain ⟨z1, z2⟩ := hSw; go_simp; try (with_reducible rfl))) ?_
      try simp only [Act.put, List.getElem_toArray, List.getElem_cons_succ, List.getElem_cons_zero, List.setIfInBounds_toArray, List.set_cons_zero, List.set_cons_succ]
      refine wpAnyJ_take1 3 rfl (by kernel_rfl) (by kernel_rfl) rfl (by kernel_rfl) (fun _ _ _ h => h) (by rfl) hS1 (fun w' hSw => (by obtain ⟨z1, z2⟩ := hSw; go_simp; try (with_reducible rfl))) ?_
      try simp only [Act.put, List.getElem_toArray, List.getElem_cons_succ, List.getElem_cons_zero, List.setIfInBounds_toArray, List.set_cons_zero, List.set_cons_succ]
      refine wpAnyJ_take1 4 rfl (by kernel_rfl) (by kernel_rfl) rfl (by kernel_rfl) (fun _ _ _ h => h) (by rfl) hS1 (fun w' hSw => (by obtain ⟨z1, z2⟩ := hSw; go_simp; try (with_reducible rfl))) ?_
      try simp only [Act.put, List.getElem_toArray, List.getElem_cons_succ, List.getElem_cons_zero, List.setIfInBounds_toArray, List.set_cons_zero, List.set_cons_succ]
      refine wpAnyJ_take1 5 rfl (by kernel_rfl) (by kernel_rfl) rfl (by kernel_rfl) (fun _ _ _ h => h) (by rfl) hS1 (fun w' hSw => (by obtain ⟨z1, z2⟩ := hSw; go_simp; try (with_reducible rfl))) ?_
      try simp only [Act.put, List.getElem_toArray, List.getElem_cons_succ, List.getElem_cons_zero, List.setIfInBounds_toArray, List.set_cons_zero, List.set_cons_succ]
      refine wpAnyJ_take1 6 rfl (by kernel_rfl) (by kernel_rfl) rfl (by kernel_rfl) (fun _ _ _ h => h) (by rfl) hS1 (fun w' hSw => (by obtain ⟨z1, z2⟩ := hSw; go_simp; try (with_reducible rfl))) ?_
      try simp only [Act.put, List.getElem_toArray, List.getElem_cons_succ, List.getElem_cons_zero, List.setIfInBounds_toArray, List.set_cons_zero, List.set_cons_succ]
      refine wpAnyJ_take1 7 rfl (by kernel_rfl) (by kernel_rfl) rfl (by kernel_rfl) (fun _ _ _ h => h) (by rfl) hS1 (fun w' hSw => (by obtain ⟨z1, z2⟩ := hSw; go_simp; try (with_reducible rfl))) ?_
      try simp only [Act.put, List.getElem_toArray, List.getElem_cons_succ, List.getElem_cons_zero, List.setIfInBounds_toArray, List.set_cons_zero, List.set_cons_succ]
      refine wpAnyJ_take1 8 rfl (by kernel_rfl) (by kernel_rfl) rfl (by kernel_rfl) (fun _ _ _ h => h) (by rfl) hS1 (fun w' hSw => (by obtain ⟨z1, z2⟩ := hSw; go_simp; try (with_reducible rfl))) ?_
      try simp only [Act.put, List.getElem_toArray, List.getElem_cons_succ, List.getElem_cons_zero, List.setIfInBounds_toArray, List.set_cons_zero, List.set_cons_succ]
      refine wpAnyJ_take1 9 rfl (by kernel_rfl) (by kernel_rfl) rfl (by kernel_rfl) (fun _ _ _ h => h) (by rfl) hS1 (fun w' hSw => (by obtain ⟨z1, z2⟩ := hSw; go_simp; try (with_reducible rfl))) ?_
      try simp only [Act.put, List.getElem_toArray, List.getElem_cons_succ, List.getElem_cons_zero, List.setIfInBounds_toArray, List.set_cons_zero, List.set_cons_succ]
      refine wpAnyJ_take1 10 rfl (by kernel_rfl) (by kernel_rfl) rfl (by kernel_rfl) (fun _ _ _ h => h) (by rfl) hS1 (fun w' hSw => (by obtain ⟨z1, z2⟩ := hSw; go_simp; try (with_reducible rfl))) ?_
      try simp only [Act.put, List.getElem_toArray, List.getElem_cons_succ, List.getElem_cons_zero, List.setIfInBounds_toArray, List.set_cons_zero, List.set_cons_succ]
      refine wpAnyJ_take1 11 rfl (by kernel_rfl) (by kernel_rfl) rfl (by kernel_rfl) (fun _ _ _ h => h) (by rfl) hS1 (fun w' hSw => (by obtain ⟨z1, z2⟩ := hSw; go_simp; try (with_reducible rfl))) ?_
      try simp only [Act.put, List.getElem_toArray, List.getElem_cons_succ, List.getElem_cons_zero, List.setIfInBounds_toArray, List.set_cons_zero, List.set_cons_succ]
      refine wpAnyJ_ready [12] (by kernel_rfl) (by simp) (NextJ.cons rfl (fun K hK => ?_) NextJ.nil)
      go_simp
      have hBd : Below W.heap.size W W.drew := (Below.refl _ _).drew
      have hBa := hBd.alloc hBd.size (.cells #[.bool x.q, .string (bN x.s)] 39)
      refine hK.out _ _ ⟨cell_old hS1.1, cell_old hS1.2⟩ (fun h => absurd h (by decide)) ?_
      clear hK K
      try simp only [Act.put, List.getElem_toArray, List.getElem_cons_succ, List.getElem_cons_zero, List.setIfInBounds_toArray, List.set_cons_zero, List.set_cons_succ]
      refine wpAnyJ_ready [13] (by kernel_rfl) (by simp) (NextJ.cons rfl (fun K hK => ?_) NextJ.nil)
      refine step_append_enc fenc_len fenc_one (by omega) (show (24 : Nat) ≤ 1000 by omega) (by rfl) (.tmp 11) (.tmp 23) _ (by rfl) w.heap.size _ i0 _ Tryz.underlying36 hi0 hz0' hz1' hz2' rfl (.slice Av j cv) (l.take j) (by rfl) (ho.below hBa) W.heap.size x (by rfl) (cells_at (w := W.drew) (fenc x) rfl) (by omega) (by simp; omega) ?_
      intro v' W8 hown8 hg8
      rw [← HSX.out] at hown8
      have hB8 : Below w.heap.size w W8 := (ho.below hBa).grown (hB.trans (hBa.mono hs1)) hg8 (by simp; omega)
      refine hK.out _ _ ⟨(hB8.cell (p := ⟨b, o + j * 2, none⟩) hb).trans hc0, (hB8.cell (p := ⟨b, o + j * 2 + 1, none⟩) hb).trans hc1⟩ (fun h => absurd h (by decide)) ?_
      clear hK K
      try simp only [Act.put, List.getElem_toArray, List.getElem_cons_succ, List.getElem_cons_zero, List.setIfInBounds_toArray, List.set_cons_zero, List.set_cons_succ]
      refine wpAnyJ_ready [14] (by kernel_rfl) (by simp) (NextJ.cons rfl (fun K hK => ?_) NextJ.nil)
      go_simp
      refine hK.out _ _ ⟨(hB8.cell (p := ⟨b, o + j * 2, none⟩) hb).trans hc0, (hB8.cell (p := ⟨b, o + j * 2 + 1, none⟩) hb).trans hc1⟩ (fun h => absurd h (by decide)) ?_
      clear hK K
      try simp only [Act.put, List.getElem_toArray, List.getElem_cons_succ, List.getElem_cons_zero, List.setIfInBounds_toArray, List.set_cons_zero, List.set_cons_succ]
      refine wpAnyJ_done (by kernel_rfl) ?_ _
      go_wp2_with fail
      go_roundw
      case rel => exact ⟨j + 1, by omega, by go_num, hown8, hB8⟩
      case measure => simp [intOf]; omega
    · obtain rfl : j = l.length := by omega
      rw [List.take_length] at ho
      go_wp2_with fail
      go_ret
      exact ⟨_, rfl, ho, hB⟩
end Go.Proofs.YtohcmfobnkaaiaaGreatDoor
