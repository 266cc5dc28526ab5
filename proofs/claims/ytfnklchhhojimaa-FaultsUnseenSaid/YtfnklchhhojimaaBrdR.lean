/- torchonref02: small functions on permutations. -/
import Derived.Test.YtfnklchhhojimaaBrdW
import Derived.Test.YtfnklchhhojimaaBrdN
import Derived.Test.YtfnklchhhojimaaOldB
import Derived.BigQuiet
import Derived.BigRegion
set_option linter.unusedSimpArgs false
set_option linter.unusedVariables false
namespace Go.Proofs.Ytfnklchhhojimaa
open Go Go.RowKit Tor Brd

theorem rdNat {w : World} {B : Nat} {A : Option Addr} {l : List Nat} (h : Rd 1 nenc w B A l) {k : Nat} (hk : k < l.length) :
    ∃ b o, A = some ⟨b, o, none⟩ ∧ b < B ∧ w.cell? ⟨b, o + k, none⟩ = some (.int .i64 (at_ l k : Nat)) := by
  obtain ⟨b, o, e, hb, hc⟩ := h (by intro e; subst e; simp at hk)
  have hx : l[k]? = some l[k] := List.getElem?_eq_getElem hk
  refine ⟨b, o, e, hb, ?_⟩
  have := hc k l[k] hx 0 (.int .i64 (l[k] : Nat)) rfl
  rw [Nat.mul_one, Nat.add_zero] at this
  rw [at_eq hk]
  exact this
theorem lst_set (n : Nat) (f : Nat → Nat) (k v : Nat) : (lst n f).set k v = lst n fun x => if x = k then v else f x := by
  apply List.ext_getElem
  · simp [lst]
  · intro i h1 h2
    have hi : i < n := by simpa [lst] using h2
    have e1 : (lst n f)[i]'(by simpa [lst] using hi) = f i := by rw [← at_eq, at_lst hi]
    have e2 : (lst n fun x => if x = k then v else f x)[i] = if i = k then v else f i := by rw [← at_eq, at_lst hi]
    rw [e2, List.getElem_set]
    by_cases hk : k = i
    · rw [if_pos hk, if_pos hk.symm]
    · rw [if_neg hk, if_neg (fun e => hk e.symm)]; exact e1
theorem lst_congr {n : Nat} {f g : Nat → Nat} (h : ∀ x, x < n → f x = g x) : lst n f = lst n g := List.map_congr_left fun x hx => h x (List.mem_range.1 hx)
theorem lst_len (n : Nat) (f : Nat → Nat) : (lst n f).length = n := by simp [lst]
theorem lst_self {n : Nat} {p : List Nat} (h : p.length = n) : lst n (at_ p) = p := by
  apply List.ext_getElem
  · rw [lst_len, h]
  · intro i h1 h2
    rw [← at_eq, at_lst (by rw [← h]; exact h2), at_eq h2]
theorem made_rep (n : Nat) : (madeCells (Value.int .i64 0).cells n).toList = List.replicate n (Value.int .i64 0) := by
  unfold madeCells
  apply List.ext_getElem?
  intro i
  rw [Array.getElem?_toList, Array.getElem?_map, List.getElem?_replicate]
  by_cases h : i < n
  · rw [Array.getElem?_range, if_pos h, if_pos h]
    simp [Value.cells, Nat.mod_one]
  · rw [if_neg h, Array.getElem?_eq_none (by simp; omega)]
    rfl
theorem nat_one (y : Nat) : ∀ u ∈ nenc y, u.oneCell' = true := by
  intro u hu
  simp [nenc] at hu; subst hu; rfl
theorem nats_news {w : World} {B : Nat} {b o : Nat} {l : List Nat} (hl : l ≠ []) (h : Rd 1 nenc w B (some ⟨b, o, none⟩) l) : ∀ (j : Nat) u, (l.flatMap nenc)[j]? = some u → w.cell? (Addr.add ⟨b, o, none⟩ j) = some u := by
  intro j u hu
  obtain ⟨b', o', e, _, hc⟩ := h hl
  injection e with e
  injection e with e1 e2 _
  subst e1; subst e2
  rw [flat_nenc2, List.getElem?_map] at hu
  cases hj : l[j]? with
  | none => rw [hj] at hu; cases hu
  | some x =>
    rw [hj] at hu
    cases hu
    have := hc j x hj 0 _ rfl
    rw [Go.WideShapes.add_plain]
    simpa using this
/-- a list is appended to an owned row, under a guard -/
theorem wpList_append_nats {P : Program} {w : World} {ops : Array Oper} {rest : List Oper} {o : Oper} {a : Act} {Q : Exit → Act → World → Prop} (hgd : o.guard = none) (s x : Operand) (t : TypeId)
    (ho : o.op = .call { callee := .builtin .append, args := #[s, x], argTypes := #[t, t] })
    (base : Nat) (e : TypeId) (i : TypeInfo) (ht : P.underlying t = some (.slice e)) (hi : P.info? e = some i) (hz : i.zero = some (.int .i64 0)) (hsize : i.size = 1) (hby : i.bytes = 8)
    (v : Value) (l m : List Nat) (hs : a.eval s = v) (hown : Own 1 nenc w base e v l) (A : Option Addr) (c B : Nat) (hx : a.eval x = .slice A m.length c) (hr : Rd 1 nenc w B A m) (hm : m ≠ [])
    (hlen : l.length ≤ 1000000) (hlen2 : m.length ≤ 1000000) (hbase : base ≤ w.heap.size)
    (h : ∀ v' w', Own 1 nenc w' base e v' (l ++ m) → w.grownBy w' v.ownBlock → wpList P ops Q rest (a.put o.dst v') w') : wpList P ops Q (o :: rest) a w := by
  obtain ⟨b, off, rfl, _, _⟩ := hr hm
  have hf : (m.flatMap nenc).length = m.length * 1 := by rw [flat_nenc2, List.length_map, Nat.mul_one]
  refine wpList_step (fun K hK => ?_)
  rw [if_pos (by simp [Region.wanted, hgd])]
  refine wp_append_own w s x t ho base e i (.int .i64 0) 1 8 ht hi hz hsize hby rfl (by omega) v l.length (l.flatMap nenc) hs hown ⟨b, off, none⟩ m.length c (m.flatMap nenc) hx hf (nats_news hm hr) ?_ (by unfold maxLen; omega) (by omega) hbase
    (fun v' w' h2 h3 _ => hK _ _ (h v' w' ?_ h3))
  · intro u hu
    obtain ⟨y, _, hu⟩ := List.mem_flatMap.1 hu
    exact nat_one y u hu
  · unfold Own
    rw [List.flatMap_append, List.length_append]
    exact h2
theorem own_emptyN (w : World) (base : Nat) (hb : base ≤ w.heap.size) (T : TypeId) : Own 1 nenc (w.alloc (.cells #[] T)) base T (.slice (some ⟨w.heap.size, 0, none⟩) 0 0) ([] : List Nat) := by
  refine ⟨rfl, Or.inr ⟨w.heap.size, 0, #[], rfl, hb, heap_alloc_new _ _, Nat.le_refl _, by simp, ?_, ?_⟩⟩
  · simp
  · simp
/-- a row of zeros that was made -/
theorem made_zero {w : World} {base g n : Nat} (h : w.ownsRow base 3 1 (.slice (some ⟨g, 0, none⟩) n n) n (madeCells (Value.int .i64 0).cells (n * 1)).toList) : Own 1 nenc w base 3 (.slice (some ⟨g, 0, none⟩) (lst n fun _ => 0).length n) (lst n fun _ => 0) := by
  unfold Own
  rw [lst_len]
  have e : (lst n fun _ => 0).flatMap nenc = (madeCells (Value.int .i64 0).cells (n * 1)).toList := by
    rw [flat_nenc2, Nat.mul_one]
    unfold lst
    rw [List.map_map]
    have hm : (madeCells (Value.int .i64 0).cells n).toList = List.replicate n (Value.int .i64 0) := made_rep n
    rw [hm]
    apply List.ext_getElem
    · simp
    · intro i h1 h2; simp
  rw [e]; exact h
theorem own_frz {w : World} {base g c : Nat} {p : List Nat} (h : Own 1 nenc w base 3 (.slice (some ⟨g, 0, none⟩) p.length c) p) (i : Nat) : base ≤ g ∧ g < w.heap.size ∧ w.frozen? ⟨g, i, none⟩ = false := by
  have hl := World.ownsRow.lt h g rfl
  exact ⟨hl.1, hl.2, World.ownsRow.frozenAt h i⟩
theorem own_at {w : World} {base g c : Nat} {p : List Nat} (h : Own 1 nenc w base 3 (.slice (some ⟨g, 0, none⟩) p.length c) p) {k : Nat} (hk : k < p.length) : w.cell? ⟨g, k, none⟩ = some (.int .i64 (at_ p k : Nat)) := by
  obtain ⟨A, d, e, _, hr⟩ := Own.rd nenc_len h
  injection e with e1 _ _
  obtain ⟨b, o, e2, _, hc⟩ := rdNat hr hk
  rw [← e1] at e2
  injection e2 with e2
  injection e2 with e3 e4 _
  subst e3; subst e4
  rw [Nat.zero_add] at hc; exact hc

set_option maxRecDepth 100000 in
set_option maxHeartbeats 4000000 in
theorem bline_any (n : Nat) (hn : n ≤ 1000) (w : World)  :
    Calls Try.prog 51 #[.int .i64 n] w (fun e w' => ∃ v, e = .returned v ∧ Own 1 nenc w' w.heap.size 3 v (idl n) ∧ Below w.heap.size w w') := by
  obtain ⟨j0, hj0, hy0', hy1', hy2'⟩ := info_parts infoInt
  have hI : Hid (idl n = List.range n) := Lib.hid (by unfold idl lst; simp)
  rw [hI.out]
  go_enter Try.func51, Try.ntmps51
  go_wp2_with fail
  go_loopw [3, 4] (fun v iv wr => ∃ (i : Nat) (L : List Nat), i ≤ n ∧ iv = .int .i64 i ∧ Hid (L = List.range i) ∧ L.length ≤ n ∧ Own 1 nenc wr w.heap.size 3 v L ∧ Below w.heap.size w wr) (fun _ iv _ => n - (intOf iv).toNat)
  case atStart => exact ⟨0, [], Nat.zero_le _, rfl, Lib.hid rfl, by simp, Own.nil _ _ _, Below.refl _ _⟩
  case round =>
    obtain ⟨i, L, hi, rfl, hL, hLl, hown, hB⟩ := hrel
    have hz := hB.size
    obtain ⟨Av, cv, rfl, hcv, hrv⟩ := Own.rd nenc_len hown
    by_cases hlt : i < n
    · have c1 : (i : Int) < (n : Int) := by omega
      have e1 : IntKind.i64.wrap ((i : Int) + 1) = (i : Int) + 1 := IntWalk.i64_in _ (by omega)
      go_wp2_with (first
        | (at_builtin; refine wpList_append_n rfl (.tmp 10) (.tmp 12) _ rfl w.heap.size _ j0 _ Try.underlying38 hj0 hy0' hy1' hy2' rfl (.slice Av L.length cv) L rfl (hown.alloc _) wr.heap.size i rfl (cell_new rfl) (by omega) (by simp; omega) ?_; intro v' w4 ho4 hg4)
        | fail)
      go_roundw
      case rel => exact ⟨i + 1, L ++ [i], by omega, by go_num, Lib.hid (by rw [hL.out, List.range_succ]), by have := congrArg List.length hL.out; simp at this; simp; omega, ho4, (hown.alloc (.cells #[.int .i64 (i : Int)] 3)).grown (hB.alloc hz (.cells #[.int .i64 (i : Int)] 3)) hg4 (by simp; omega)⟩
      case measure => simp [intOf]; omega
    · have c1 : ¬ (i : Int) < (n : Int) := by omega
      have e0 : i = n := by omega
      go_wp2_with fail
      go_ret
      rw [hL.out, e0] at hown
      exact ⟨_, rfl, by simpa [hL.out, e0] using hown, hB⟩
set_option maxRecDepth 100000 in
set_option maxHeartbeats 4000000 in
theorem bends_any (n : Nat) (A : Option Addr) (p : List Nat) (c : Nat) (w : World) (H : Nat) (hr : Rd 1 nenc w H A p) (hH : H ≤ w.heap.size) (hp : PermL n p) (hn : n ≤ 1000) :
    Calls Try.prog 81 #[.slice A p.length c] w (fun e w' => ∃ v, e = .returned v ∧ Own 1 nenc w' w.heap.size 3 v (endsL n p) ∧ Below w.heap.size w w') := by
  obtain ⟨j0, hj0, hy0', hy1', hy2'⟩ := info_parts infoInt
  have hl := hp.len
  obtain ⟨R, hR⟩ : ∃ R : Nat → List Nat, Hid (∀ i, R i = lst n fun v => if iv p v < i then iv p v else 0) := ⟨_, Lib.hid fun _ => rfl⟩
  have hRl : ∀ i, (R i).length = n := fun i => by rw [hR.out, lst_len]
  have hR0 : R 0 = lst n fun _ => 0 := by rw [hR.out]; exact lst_congr fun x _ => by simp
  have hRn : R n = endsL n p := by rw [hR.out]; unfold endsL; exact lst_congr fun x hx => by rw [if_pos (hp.iv_lt hx)]
  have hRs : ∀ i, i < n → (R i).set (at_ p i) i = R (i + 1) := fun i hi => by
    rw [hR.out, hR.out, lst_set]
    refine lst_congr fun x hx => ?_
    by_cases e : x = at_ p i
    · rw [if_pos e, e, hp.iv_at hi, if_pos (by omega)]
    · rw [if_neg e]
      have hne : iv p x ≠ i := fun h => e (by rw [← h, hp.at_iv hx])
      by_cases h : iv p x < i
      · rw [if_pos h, if_pos (by omega)]
      · rw [if_neg h, if_neg (by omega)]
  rw [hl]
  go_enter Try.func81, Try.ntmps81
  go_wp2_with (first
    | (at_make; refine wpList_make_full _ rfl _ _ _ rfl w.heap.size _ j0 _ 1 Try.underlying38 hj0 hy0' hy1' .i64 .i64 _ _ n rfl rfl rfl rfl (by rw [hy2']; omega) (by unfold maxLen; omega) (Nat.le_refl _) ?_; intro w1 hown0 hg0)
    | fail)
  have hO0 := made_zero hown0
  have hB0 : Below w.heap.size w w1 := ⟨hg0.os, hg0.tape, hg0.output, hg0.size, fun k hk => hg0.block k hk (by simp)⟩
  clear hown0 hg0
  rw [← hR0, hRl] at hO0
  go_loopw [4] (fun iv wr => ∃ i : Nat, i ≤ n ∧ iv = .int .i64 i ∧ Own 1 nenc wr w.heap.size 3 (.slice (some ⟨w.heap.size, 0, none⟩) n n) (R i) ∧ Below w.heap.size w wr) (fun iv _ => n - (intOf iv).toNat)
  case atStart => exact ⟨0, Nat.zero_le _, rfl, hO0, hB0⟩
  case round =>
    obtain ⟨i, hi, rfl, hown, hB⟩ := hrel
    have hz := hB.size
    by_cases hlt : i < n
    · have c1 : (i : Int) < (n : Int) := by omega
      have c2 : (0 : Int) ≤ (i : Int) := by omega
      have e1 : IntKind.i64.wrap ((i : Int) + 1) = (i : Int) + 1 := IntWalk.i64_in _ (by omega)
      obtain ⟨b, o, hA, hb, m0⟩ := rdNat (hr.below' hB hH) (k := i) (by omega)
      subst hA
      have lm := lt_of_cell m0
      have hat := hp.at_lt hlt
      have hst := hRs i hlt
      obtain ⟨x, hx⟩ : ∃ x, Hid (at_ p i = x) := ⟨_, Lib.hid rfl⟩
      rw [hx.out] at m0 hat hst
      have x0 : (0 : Int) ≤ (x : Int) := by omega
      have x1 : (x : Int) < (n : Int) := by omega
      have hown' := hown
      rw [← hRl i] at hown'
      obtain ⟨_, lg, fz⟩ := own_frz hown' x
      have cx := own_at hown' (k := x) (by rw [hRl]; exact hat)
      have hs := own_setn hown' x i
      rw [hst, hRl] at hs
      go_wp2_with fail
      go_roundw
      case rel => exact ⟨i + 1, by omega, by go_num, hs, hB.setCell (by show w.heap.size ≤ w.heap.size; omega) _⟩
      case measure => simp [intOf]; omega
    · have c1 : ¬ (i : Int) < (n : Int) := by omega
      have e0 : i = n := by omega
      subst e0
      rw [hRn] at hown
      go_wp2_with fail
      go_ret
      exact ⟨_, rfl, hown, hB⟩
set_option maxRecDepth 100000 in
set_option maxHeartbeats 4000000 in
theorem bbegins_any (n : Nat) (A : Option Addr) (p : List Nat) (c : Nat) (i : Nat) (h1 : 1 ≤ i) (h2 : i < n) (w : World) (H : Nat) (hr : Rd 1 nenc w H A p) (hH : H ≤ w.heap.size) (hp : PermL n p) (hn : n ≤ 1000) :
    Calls Try.prog 69 #[.slice A p.length c, .int .i64 i] w (Ret (.bool (decide (at_ p i < at_ p (i - 1)))) w) := by
  have hl := hp.len
  obtain ⟨b, o, hA, hb, m0⟩ := rdNat hr (k := i) (by omega)
  subst hA
  obtain ⟨_, _, hA2, _, m1⟩ := rdNat hr (k := i - 1) (by omega)
  cases hA2
  have lm := lt_of_cell m0
  obtain ⟨x, hx⟩ : ∃ x, Hid (at_ p i = x) := ⟨_, Lib.hid rfl⟩
  obtain ⟨y, hy⟩ : ∃ y, Hid (at_ p (i - 1) = y) := ⟨_, Lib.hid rfl⟩
  rw [hx.out] at m0
  rw [hy.out] at m1
  rw [hx.out, hy.out, hl]
  have e1 : IntKind.i64.wrap ((i : Int) - 1) = (i : Int) - 1 := IntWalk.i64_in _ (by omega)
  have c0 : (0 : Int) ≤ (i : Int) := by omega
  have c1 : (i : Int) < (n : Int) := by omega
  have c2 : (0 : Int) ≤ (i : Int) - 1 := by omega
  have c3 : (i : Int) - 1 < (n : Int) := by omega
  have c4 : ((i : Int) - 1).toNat = i - 1 := by omega
  have m1' : w.cell? ⟨b, o + (i - 1), none⟩ = some (.int .i64 (y : Int)) := m1
  go_enter Try.func69, Try.ntmps69
  go_wp2_with fail
  go_big_quiet (fail)
  have hBq := (Below.refl w.heap.size w).drewN nq
  go_wp2_with fail
  go_ret
  exact ⟨by simp, hBq⟩
set_option maxRecDepth 100000 in
set_option maxHeartbeats 4000000 in
theorem bfinishes_any (n : Nat) (A : Option Addr) (p : List Nat) (c : Nat) (i : Nat) (h1 : 1 ≤ i) (h2 : i < n) (w : World) (H : Nat) (hr : Rd 1 nenc w H A p) (hH : H ≤ w.heap.size) (hp : PermL n p) (hn : n ≤ 1000) :
    Calls Try.prog 70 #[.slice A p.length c, .int .i64 i] w (Ret (.bool (decide (iv p i < iv p (i - 1)))) w) := by
  have hl := hp.len
  have HE := Lib.hid (bends_any n A p c w H hr hH hp hn)
  rw [hl] at HE ⊢
  have e1 : IntKind.i64.wrap ((i : Int) - 1) = (i : Int) - 1 := IntWalk.i64_in _ (by omega)
  have c0 : (0 : Int) ≤ (i : Int) := by omega
  have c1 : (i : Int) < (n : Int) := by omega
  have c2 : (0 : Int) ≤ (i : Int) - 1 := by omega
  have c3 : (i : Int) - 1 < (n : Int) := by omega
  have c4 : ((i : Int) - 1).toNat = i - 1 := by omega
  obtain ⟨x, hx⟩ : ∃ x, Hid (iv p i = x) := ⟨_, Lib.hid rfl⟩
  obtain ⟨y, hy⟩ : ∃ y, Hid (iv p (i - 1) = y) := ⟨_, Lib.hid rfl⟩
  rw [hx.out, hy.out]
  go_enter Try.func70, Try.ntmps70
  go_wp2_with (first
    | (go_at_call 81; refine HE.out.mono ?_; rintro e w1 ⟨v, rfl, hO, hB⟩
       obtain ⟨Av, cv, rfl, hcv, hrv⟩ := Own.rd nenc_len hO
       rw [show (endsL n p).length = n from lst_len _ _]
       obtain ⟨b, o, hA, hb, m0⟩ := rdNat hrv (k := i) (by rw [show (endsL n p).length = n from lst_len _ _]; omega)
       subst hA
       obtain ⟨_, _, hA2, _, m1⟩ := rdNat hrv (k := i - 1) (by rw [show (endsL n p).length = n from lst_len _ _]; omega)
       cases hA2
       have lm := lt_of_cell m0
       rw [show at_ (endsL n p) i = x from by unfold endsL; rw [at_lst h2]; exact hx.out] at m0
       rw [show at_ (endsL n p) (i - 1) = y from by unfold endsL; rw [at_lst (by omega)]; exact hy.out] at m1
       have m1' : w1.cell? ⟨b, o + (i - 1), none⟩ = some (.int .i64 (y : Int)) := m1)
    | fail)
  go_big_quiet (fail)
  have hBq := hB.drewN nq
  go_wp2_with fail
  go_ret
  exact ⟨by simp, hBq⟩
set_option maxRecDepth 100000 in
set_option maxHeartbeats 4000000 in
theorem bflat_any (n : Nat) (A : Option Addr) (p : List Nat) (c : Nat) (way : Int) (hway : way = 1 ∨ way = -1) (B : Bool) (hBv : Hid (B = true ↔ ∀ i, 1 ≤ i → i < n → (at_ p i : Int) = at_ p (i - 1) + way)) (w : World) (H : Nat) (hr : Rd 1 nenc w H A p) (hH : H ≤ w.heap.size) (hp : PermL n p) (hn : n ≤ 1000) :
    Calls Try.prog 55 #[.slice A p.length c, .int .i64 way] w (Ret (.bool (B)) w) := by
  have hl := hp.len
  rw [hl]
  go_enter Try.func55, Try.ntmps55
  go_wp2_with fail
  go_loopw [5] (fun iv wr => ∃ i : Nat, 1 ≤ i ∧ (i ≤ n ∨ i = 1) ∧ iv = .int .i64 i ∧ Hid (∀ j, 1 ≤ j → j < i → (at_ p j : Int) = at_ p (j - 1) + way) ∧ Below w.heap.size w wr) (fun iv _ => n - (intOf iv).toNat)
  case atStart => exact ⟨1, Nat.le_refl _, .inr rfl, rfl, Lib.hid (fun j h1 h2 => by omega), Below.refl _ _⟩
  case round =>
    obtain ⟨i, hi1, hi, rfl, hall, hB⟩ := hrel
    have hz := hB.size
    by_cases hlt : i < n
    · have c1 : (i : Int) < (n : Int) := by omega
      have hrr := hr.below' hB hH
      obtain ⟨b, o, hA, hb, m0⟩ := rdNat hrr (k := i) (by omega)
      subst hA
      obtain ⟨_, _, hA2, _, m1⟩ := rdNat hrr (k := i - 1) (by omega)
      cases hA2
      have lm := lt_of_cell m0
      have hax := hp.at_lt hlt
      have hay := hp.at_lt (show i - 1 < n by omega)
      obtain ⟨x, hx⟩ : ∃ x, Hid (at_ p i = x) := ⟨_, Lib.hid rfl⟩
      obtain ⟨y, hy⟩ : ∃ y, Hid (at_ p (i - 1) = y) := ⟨_, Lib.hid rfl⟩
      rw [hx.out] at m0 hax
      rw [hy.out] at m1 hay
      have e1 : IntKind.i64.wrap ((i : Int) - 1) = (i : Int) - 1 := IntWalk.i64_in _ (by omega)
      have e2 : IntKind.i64.wrap ((i : Int) + 1) = (i : Int) + 1 := IntWalk.i64_in _ (by omega)
      have e3 : IntKind.i64.wrap ((y : Int) + way) = (y : Int) + way := IntWalk.i64_in _ (by rcases hway with h | h <;> omega)
      have c0 : (0 : Int) ≤ (i : Int) := by omega
      have c2 : (0 : Int) ≤ (i : Int) - 1 := by omega
      have c3 : (i : Int) - 1 < (n : Int) := by omega
      have c4 : ((i : Int) - 1).toNat = i - 1 := by omega
      have m1' : wr.cell? ⟨b, o + (i - 1), none⟩ = some (.int .i64 (y : Int)) := m1
      have HW := Lib.hid hway
      clear hway
      by_cases heq : (x : Int) = (y : Int) + way
      · have z1 : ((x : Int) != (y : Int) + way) = false := by rw [bne_eq_false_iff_eq]; exact heq
        have z2 : ((x : Int) == (y : Int) + way) = true := by rw [beq_iff_eq]; exact heq
        have HEQ := Lib.hid heq
        clear heq
        go_wp2_with fail
        go_big_quiet (fail)
        have hBq := hB.drewN nq
        go_wp2_with fail
        go_roundw
        case rel => exact ⟨i + 1, by omega, .inl (by omega), by go_num, Lib.hid (fun j h1 h2 => by
          by_cases e : j = i
          · rw [e, hx.out, hy.out]; exact HEQ.out
          · exact hall.out j h1 (by omega)), hBq⟩
        case measure => simp [intOf]; omega
      · have z1 : ((x : Int) != (y : Int) + way) = true := by rw [bne_iff_ne]; exact heq
        have z2 : ((x : Int) == (y : Int) + way) = false := by rw [beq_eq_false_iff_ne]; exact heq
        have hBF : B = false := by cases hb : B with | false => rfl | true => exact absurd (by have := hBv.out.1 hb i hi1 hlt; rw [hx.out, hy.out] at this; exact this) heq
        have HEQ := Lib.hid heq
        clear heq
        subst hBF
        go_wp2_with fail
        go_big_quiet (fail)
        have hBq := hB.drewN nq
        go_wp2_with fail
        go_ret
        exact ⟨rfl, hBq⟩
    · have c1 : ¬ (i : Int) < (n : Int) := by omega
      have hBT : B = true := hBv.out.2 (fun j h1 h2 => hall.out j h1 (by omega))
      subst hBT
      go_wp2_with fail
      go_ret
      exact ⟨rfl, hB⟩
set_option maxRecDepth 100000 in
set_option maxHeartbeats 4000000 in
theorem bturned_any (n : Nat) (A : Option Addr) (p : List Nat) (c : Nat) (w : World) (H : Nat) (hr : Rd 1 nenc w H A p) (hH : H ≤ w.heap.size) (hp : PermL n p) (hn : n ≤ 1000) :
    Calls Try.prog 52 #[.slice A p.length c] w (fun e w' => ∃ v, e = .returned v ∧ Own 1 nenc w' w.heap.size 3 v (tur n p) ∧ Below w.heap.size w w') := by
  obtain ⟨j0, hj0, hy0', hy1', hy2'⟩ := info_parts infoInt
  have hl := hp.len
  obtain ⟨R, hR⟩ : ∃ R : Nat → List Nat, Hid (∀ i, R i = lst n fun x => if n - 1 - x < i then n - 1 - at_ p (n - 1 - x) else 0) := ⟨_, Lib.hid fun _ => rfl⟩
  have hRl : ∀ i, (R i).length = n := fun i => by rw [hR.out, lst_len]
  have hR0 : R 0 = lst n fun _ => 0 := by rw [hR.out]; exact lst_congr fun x _ => by simp
  have hRn : R n = tur n p := by rw [hR.out]; unfold tur; exact lst_congr fun x hx => by rw [if_pos (by omega)]
  have hRs : ∀ i, i < n → (R i).set (n - 1 - i) (n - 1 - at_ p i) = R (i + 1) := fun i hi => by
    rw [hR.out, hR.out, lst_set]
    refine lst_congr fun x hx => ?_
    by_cases e : x = n - 1 - i
    · rw [if_pos e, if_pos (by omega), show n - 1 - x = i by omega]
    · rw [if_neg e]
      by_cases h : n - 1 - x < i
      · rw [if_pos h, if_pos (by omega)]
      · rw [if_neg h, if_neg (by omega)]
  rw [hl]
  go_enter Try.func52, Try.ntmps52
  go_wp2_with (first
    | (at_make; refine wpList_make_full _ rfl _ _ _ rfl w.heap.size _ j0 _ 1 Try.underlying38 hj0 hy0' hy1' .i64 .i64 _ _ n rfl rfl rfl rfl (by rw [hy2']; omega) (by unfold maxLen; omega) (Nat.le_refl _) ?_; intro w1 hown0 hg0)
    | fail)
  have hO0 := made_zero hown0
  have hB0 : Below w.heap.size w w1 := ⟨hg0.os, hg0.tape, hg0.output, hg0.size, fun k hk => hg0.block k hk (by simp)⟩
  clear hown0 hg0
  rw [← hR0, hRl] at hO0
  go_loopw [5] (fun iv wr => ∃ i : Nat, i ≤ n ∧ iv = .int .i64 i ∧ Own 1 nenc wr w.heap.size 3 (.slice (some ⟨w.heap.size, 0, none⟩) n n) (R i) ∧ Below w.heap.size w wr) (fun iv _ => n - (intOf iv).toNat)
  case atStart => exact ⟨0, Nat.zero_le _, rfl, hO0, hB0⟩
  case round =>
    obtain ⟨i, hi, rfl, hown, hB⟩ := hrel
    have hz := hB.size
    by_cases hlt : i < n
    · have c1 : (i : Int) < (n : Int) := by omega
      have c2 : (0 : Int) ≤ (i : Int) := by omega
      have e1 : IntKind.i64.wrap ((i : Int) + 1) = (i : Int) + 1 := IntWalk.i64_in _ (by omega)
      obtain ⟨b, o, hA, hb, m0⟩ := rdNat (hr.below' hB hH) (k := i) (by omega)
      subst hA
      have lm := lt_of_cell m0
      have hat := hp.at_lt hlt
      have hst := hRs i hlt
      obtain ⟨x, hx⟩ : ∃ x, Hid (at_ p i = x) := ⟨_, Lib.hid rfl⟩
      rw [hx.out] at m0 hat hst
      obtain ⟨y, hy⟩ : ∃ y : Nat, y = n - 1 - i := ⟨_, rfl⟩
      obtain ⟨z, hz'⟩ : ∃ z : Nat, z = n - 1 - x := ⟨_, rfl⟩
      rw [← hy, ← hz'] at hst
      have w1' : IntKind.i64.wrap ((n : Int) - 1) = (n : Int) - 1 := IntWalk.i64_in _ (by omega)
      have w2 : IntKind.i64.wrap ((n : Int) - 1 - (i : Int)) = (y : Int) := by rw [IntWalk.i64_in _ (by omega)]; omega
      have w3 : IntKind.i64.wrap ((n : Int) - 1 - (x : Int)) = (z : Int) := by rw [IntWalk.i64_in _ (by omega)]; omega
      have x0 : (0 : Int) ≤ (y : Int) := by omega
      have x1 : (y : Int) < (n : Int) := by omega
      have hyn : y < n := by omega
      have HY := Lib.hid hy
      have HZ := Lib.hid hz'
      clear hy hz'
      have hown' := hown
      rw [← hRl i] at hown'
      obtain ⟨_, lg, fz⟩ := own_frz hown' y
      have cx := own_at hown' (k := y) (by rw [hRl]; exact hyn)
      have hs := own_setn hown' y z
      rw [hst, hRl] at hs
      go_wp2_with fail
      go_roundw
      case rel => exact ⟨i + 1, by omega, by go_num, hs, hB.setCell (by show w.heap.size ≤ w.heap.size; omega) _⟩
      case measure => simp [intOf]; omega
    · have c1 : ¬ (i : Int) < (n : Int) := by omega
      have e0 : i = n := by omega
      subst e0
      rw [hRn] at hown
      go_wp2_with fail
      go_ret
      exact ⟨_, rfl, hown, hB⟩
set_option maxRecDepth 100000 in
set_option maxHeartbeats 4000000 in
theorem bafter_any (n : Nat) (A : Option Addr) (p : List Nat) (c : Nat) (i : Nat) (h1 : 1 ≤ i) (h2 : i < n) (w : World) (H : Nat) (hr : Rd 1 nenc w H A p) (hH : H ≤ w.heap.size) (hp : PermL n p) (hn : n ≤ 1000) :
    Calls Try.prog 50 #[.slice A p.length c, .int .i64 i] w (fun e w' => ∃ v, e = .returned v ∧ Own 1 nenc w' w.heap.size 3 v (aft p i) ∧ Below w.heap.size w w') := by
  obtain ⟨j0, hj0, hy0', hy1', hy2'⟩ := info_parts infoInt
  have hl := hp.len
  have hpne : p ≠ [] := fun e => by rw [e] at hl; simp at hl; omega
  obtain ⟨R, hR⟩ : ∃ R : Nat → List Nat, Hid (∀ k, R k = lst n fun x => if x < k then sx i (at_ p x) else at_ p x) := ⟨_, Lib.hid fun _ => rfl⟩
  have hRl : ∀ k, (R k).length = n := fun k => by rw [hR.out, lst_len]
  have hR0 : R 0 = p := by rw [hR.out, ← lst_self hl]; exact lst_congr fun x hx => by rw [if_neg (by omega), lst_self hl]
  have hRn : R n = aft p i := by
    refine PermL.ext (n := n) ?_ (hp.aft h1 h2) fun x hx => ?_
    · rw [hR.out]; have e : (lst n fun x => if x < n then sx i (at_ p x) else at_ p x) = aft p i := by
        apply List.ext_getElem
        · rw [lst_len]; simp [aft, hl]
        · intro k k1 k2
          have hk : k < n := by rw [lst_len] at k1; exact k1
          rw [← at_eq, at_lst hk, if_pos hk, ← at_eq, at_aft (by rw [hl]; exact hk)]
      rw [e]; exact hp.aft h1 h2
    · rw [hR.out, at_lst hx, if_pos hx, at_aft (by rw [hl]; exact hx)]
  have hRs : ∀ k, k < n → (R k).set k (sx i (at_ p k)) = R (k + 1) := fun k hk => by
    rw [hR.out, hR.out, lst_set]
    refine lst_congr fun x hx => ?_
    by_cases e : x = k
    · rw [if_pos e, e, if_pos (by omega)]
    · rw [if_neg e]
      by_cases h : x < k
      · rw [if_pos h, if_pos (by omega)]
      · rw [if_neg h, if_neg (by omega)]
  have hRg : ∀ k, k < n → at_ (R k) k = at_ p k := fun k hk => by rw [hR.out, at_lst hk, if_neg (by omega)]
  have ei : IntKind.i64.wrap ((i : Int) - 1) = (i : Int) - 1 := IntWalk.i64_in _ (by omega)
  go_enter Try.func50, Try.ntmps50
  go_wp2_with (first
    | (at_builtin; refine wpList_append_nats rfl (.tmp 7) (.tmp 8) _ rfl w.heap.size _ j0 Try.underlying38 hj0 hy0' hy1' hy2' (.slice (some ⟨w.heap.size, 0, none⟩) 0 0) [] p rfl (own_emptyN w w.heap.size (Nat.le_refl _) _) A c H rfl (hr.below' ((Below.refl _ _).alloc (Nat.le_refl _) _) hH) hpne (by simp) (by omega) (by simp) ?_; intro v1 w1 ho1 hg1)
    | fail)
  rw [List.nil_append] at ho1
  have hB1 : Below w.heap.size w w1 := (own_emptyN w w.heap.size (Nat.le_refl _) 3).grown ((Below.refl _ _).alloc (Nat.le_refl _) _) hg1 (by simp)
  obtain ⟨A1, c1, rfl, hc1, hr1⟩ := Own.rd nenc_len ho1
  have hA1 := hr1 hpne
  obtain ⟨g, og, rfl, hg, _⟩ := hA1
  have hog : og = 0 := by
    obtain ⟨_, h5⟩ := ho1
    rcases h5 with ⟨e, _⟩ | ⟨g', cap, cur, e, _⟩
    · cases e
    · cases e; rfl
  subst hog
  rw [hl]
  rw [hl] at ho1
  rw [← hR0] at ho1
  go_wp2_with fail
  go_loopw [6] (fun iv wr => ∃ k : Nat, k ≤ n ∧ iv = .int .i64 k ∧ Own 1 nenc wr w.heap.size 3 (.slice (some ⟨g, 0, none⟩) n c1) (R k) ∧ Below w.heap.size w wr) (fun iv _ => n - (intOf iv).toNat)
  case atStart => exact ⟨0, Nat.zero_le _, rfl, ho1, hB1⟩
  case round =>
    obtain ⟨k, hk, rfl, hown, hB⟩ := hrel
    have hz := hB.size
    by_cases hlt : k < n
    · have c1' : (k : Int) < (n : Int) := by omega
      have c2 : (0 : Int) ≤ (k : Int) := by omega
      have e1 : IntKind.i64.wrap ((k : Int) + 1) = (k : Int) + 1 := IntWalk.i64_in _ (by omega)
      obtain ⟨b, o, hA, hb, m0⟩ := rdNat (hr.below' hB hH) (k := k) (by omega)
      subst hA
      have lm := lt_of_cell m0
      have hat := hp.at_lt hlt
      have hst := hRs k hlt
      have hgt := hRg k hlt
      obtain ⟨x, hx⟩ : ∃ x, Hid (at_ p k = x) := ⟨_, Lib.hid rfl⟩
      rw [hx.out] at m0 hat hst hgt
      have hown' := hown
      rw [← hRl k] at hown'
      obtain ⟨hwg, lg, fz⟩ := own_frz hown' k
      have cx := own_at hown' (k := k) (by rw [hRl]; exact hlt)
      rw [hgt] at cx
      have lx := lt_of_cell cx
      have hnb : ∀ u : Value, (wr.setCell ⟨g, k, none⟩ u).cell? ⟨b, o + k, none⟩ = some (.int .i64 (x : Int)) := fun u => by
        have hS : Same (fun j => j ≠ g) wr (wr.setCell ⟨g, k, none⟩ u) := ⟨rfl, rfl, rfl, by simp, fun q hq => Below.heap_setCell wr ⟨g, k, none⟩ u q hq⟩
        exact (Same.cell hS (p := ⟨b, o + k, none⟩) (by show b ≠ g; omega)).trans m0
      by_cases he : x = i
      · have z1 : ((x : Int) == (i : Int)) = true := by simp; omega
        have z2 : ((x : Int) == (i : Int) - 1) = false := by rw [beq_eq_false_iff_ne]; omega
        have hv : ((i - 1 : Nat) : Int) = (i : Int) - 1 := by omega
        have hs := own_setn hown' k (i - 1)
        rw [show sx i x = i - 1 from by rw [he]; exact sx_hi] at hst
        rw [hst, hRl] at hs
        rw [hv] at hs
        have HE := Lib.hid he
        have HV := Lib.hid hv
        clear he hv hst hgt
        have hn1 := hnb (.int .i64 ((i : Int) - 1))
        go_wp2_with fail
        go_roundw
        case rel => exact ⟨k + 1, by omega, by go_num, hs, hB.setCell (by exact hwg) _⟩
        case measure => simp [intOf]; omega
      · have z1 : ((x : Int) == (i : Int)) = false := by rw [beq_eq_false_iff_ne]; omega
        by_cases he2 : x + 1 = i
        · have z2 : ((x : Int) == (i : Int) - 1) = true := by simp; omega
          have hs := own_setn hown' k (i)
          rw [show sx i x = i from by unfold sx; rw [if_pos he2]] at hst
          rw [hst, hRl] at hs
          have HE := Lib.hid he2
          have HE1 := Lib.hid he
          clear he he2 hst hgt
          go_wp2_with fail
          go_roundw
          case rel => exact ⟨k + 1, by omega, by go_num, hs, hB.setCell (by exact hwg) _⟩
          case measure => simp [intOf]; omega
        · have z2 : ((x : Int) == (i : Int) - 1) = false := by rw [beq_eq_false_iff_ne]; omega
          rw [show sx i x = x from sx_far he2 he] at hst
          have hid : (R k).set k x = R k := by
            have hk' : k < (R k).length := by rw [hRl]; exact hlt
            have e : (R k)[k] = x := by rw [← at_eq hk', hgt]
            rw [← e]; exact List.set_getElem_self hk'
          rw [hid] at hst
          rw [hst] at hown
          have HE := Lib.hid he2
          have HE1 := Lib.hid he
          clear he he2 hst hgt hid
          go_wp2_with fail
          go_roundw
          case rel => exact ⟨k + 1, by omega, by go_num, hown, hB⟩
          case measure => simp [intOf]; omega
    · have c1' : ¬ (k : Int) < (n : Int) := by omega
      have e0 : k = n := by omega
      subst e0
      rw [hRn] at hown
      go_wp2_with fail
      go_ret
      exact ⟨_, rfl, hown, hB⟩
end Go.Proofs.Ytfnklchhhojimaa
