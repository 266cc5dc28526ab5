/- Plain theory and walks of small functions (OldA5). -/
import Derived.Test.YtmfklcnocekdlaaGreatDoorOldA4
import Derived.Test.YtmfklcnocekdlaaGreatDoorOldA3
import Derived.Test.YtmfklcnocekdlaaGreatDoorOldA1
set_option linter.unusedSimpArgs false
set_option linter.unusedVariables false
namespace Go.Proofs.YtmfklcnocekdlaaGreatDoor
open Go Go.RowKit Tor

theorem wpList_append_i {P : Program} {ops : Array Oper} {rest : List Oper} {o : Oper} {a : Act} {Q : Exit → Act → World → Prop} {w : World} (hgd : o.guard = none) (s x : Operand) (t : TypeId)
    (ho : o.op = .call { callee := .builtin .append, args := #[s, x], argTypes := #[t, t] })
    (base : Nat) (e : TypeId) (i : TypeInfo) (z : Value) (ht : P.underlying t = some (.slice e)) (hi : P.info? e = some i) (hz : i.zero = some z)
    (hsize : i.size = 1) (hby : i.bytes = 8) (hzs : z.cells.size = 1)
    (v : Value) (l : List Int) (hs : a.eval s = v) (hown : Own 1 ienc w base e v l)
    (g : Nat) (y : Int) (hx : a.eval x = .slice (some ⟨g, 0, none⟩) 1 1)
    (h0 : w.cell? ⟨g, 0, none⟩ = some (.int .i64 y))
    (hlen : l.length ≤ 1000000) (hbase : base ≤ w.heap.size)
    (h : ∀ v' w', Own 1 ienc w' base e v' (l ++ [y]) → w.grownBy w' v.ownBlock → wpList P ops Q rest (a.put o.dst v') w') : wpList P ops Q (o :: rest) a w := by
  refine wpList_append_own w hgd s x t ho base e i z 1 8 ht hi hz hsize hby hzs (by omega) v l.length (l.flatMap ienc) hs hown ⟨g, 0, none⟩ 1 1 (ienc y) hx rfl ?_ (int_one y) (by unfold maxLen; omega) (by omega) hbase
    (fun v' w' a b _ => h v' w' (Own.append1 rfl a) b)
  intro j u hu
  match j, hu with
  | 0, hu => simp [ienc] at hu; subst hu; simpa [Addr.add] using h0


/-- the places of the reaches -/
def placesOf (l : List Tri) : List Int := (l.filter fun x => decide (x.a = 1)).map (·.b)
theorem placesOf_snoc (l : List Tri) (k : Nat) (h : k < l.length) : placesOf (l.take (k + 1)) = placesOf (l.take k) ++ (if l[k].a = 1 then [l[k].b] else []) := by
  rw [take_snoc l k h]
  unfold placesOf
  rw [List.filter_append, List.map_append]
  by_cases e : l[k].a = 1 <;> simp [e]
theorem placesOf_len (l : List Tri) (k : Nat) : (placesOf (l.take k)).length ≤ k := by
  unfold placesOf
  rw [List.length_map]
  exact Nat.le_trans (List.length_filter_le _ _) (List.length_take_le _ _)

theorem places_any (A : Option Addr) (l : List Tri) (c : Nat) (w : World) (H : Nat) (hl : l.length ≤ 100000) (ha : RdT w H A l) (hH : H ≤ w.heap.size) :
    Calls Tryz.prog 25 #[.slice A l.length c] w fun e w' => ∃ v, e = .returned v ∧ Own 1 ienc w' w.heap.size 3 v (placesOf l) ∧ Below w.heap.size w w' := by
  obtain ⟨i0, hi0, hz0', hz1', hz2'⟩ := info_parts infoInt
  go_enter Tryz.func25, Tryz.ntmps25
  go_wp2_with fail
  go_loopw [3, 4] (fun v i wr => ∃ k : Nat, k ≤ l.length ∧ i = .int .i64 k ∧ Own 1 ienc wr w.heap.size 3 v (placesOf (l.take k)) ∧ Below w.heap.size w wr) (fun _ i _ => l.length - (intOf i).toNat)
  case atStart => exact ⟨0, Nat.zero_le _, rfl, Own.nil _ _ _, Below.refl _ _⟩
  case round =>
    obtain ⟨k, hk, rfl, hown, hB⟩ := hrel
    have hle := placesOf_len l k
    have hz := hB.size
    by_cases hlt : k < l.length
    · have HS := Lib.hid (placesOf_snoc l k hlt)
      obtain ⟨b, o, rfl, hb0, h0, h1, h2⟩ := (ha.below' hB hH).tri hlt
      by_cases h1' : l[k].a = 1
      · have e : (l[k].a == 1) = true := by simp [h1']
        have HE := Lib.hid h1'
        clear h1'
        go_wp2_with (first
          | (at_builtin; refine wpList_append_i rfl (.tmp 17) (.tmp 23) _ rfl w.heap.size _ i0 _ Tryz.underlying48 hi0 hz0' hz1' hz2' rfl _ (placesOf (l.take k)) rfl (hown.alloc _) wr.heap.size l[k].b rfl (cell_new rfl) (by omega) (by simp; omega) ?_; intro v' w4 hown4 hg4))
        go_roundw
        case rel => exact ⟨k + 1, by omega, by go_num, by rw [HS.out, if_pos HE.out]; exact hown4, (hown.alloc _).grown (hB.alloc hz _) hg4 (by simp; omega)⟩
        case measure => simp [intOf]; omega
      · have e : (l[k].a == 1) = false := by simp [h1']
        have HE := Lib.hid h1'
        clear h1'
        go_wp2_with fail
        go_roundw
        case rel => exact ⟨k + 1, by omega, by go_num, by rw [HS.out, if_neg HE.out, List.append_nil]; exact hown, hB⟩
        case measure => simp [intOf]; omega
    · go_wp2_with fail
      go_ret
      exact ⟨_, rfl, by rw [take_all l k hlt] at hown; exact hown, hB⟩

theorem sameInts_any (A B : Option Addr) (l m : List Int) (c d : Nat) (w : World) (H : Nat) (hl : l.length ≤ 100000) (hm : m.length ≤ 100000) (ha : RdI w H A l) (hb : RdI w H B m) (hH : H ≤ w.heap.size) :
    Calls Tryz.prog 24 #[.slice A l.length c, .slice B m.length d] w (Ret (.bool (decide (l = m))) w) := by
  go_enter Tryz.func24, Tryz.ntmps24
  by_cases hnm : l.length = m.length
  · have hnm' : ((l.length : Int) != (m.length : Int)) = false := by simp [hnm]
    have H0 := Lib.hid hnm
    clear hnm
    go_wp2_with fail
    go_loopw [5] (fun i wr => ∃ k : Nat, k ≤ l.length ∧ i = .int .i64 k ∧ Hid (l.take k = m.take k) ∧ Below w.heap.size w wr) (fun i _ => l.length - (intOf i).toNat)
    case atStart => exact ⟨0, Nat.zero_le _, rfl, by simp [Hid], Below.refl _ _⟩
    case round =>
      obtain ⟨k, hk, rfl, ht, hB⟩ := hrel
      by_cases hlt : k < l.length
      · obtain ⟨b, o, rfl, hb0, h0⟩ := (ha.below' hB hH).int hlt
        have hlt' : k < m.length := by rw [← H0.out]; exact hlt
        obtain ⟨b', o', rfl, hb0', g0⟩ := (hb.below' hB hH).int hlt'
        have l1 := lt_of_cell h0
        have l2 := lt_of_cell g0
        have k0 : (0 : Int) ≤ (k : Int) := by omega
        have k1 : (k : Int) < (l.length : Int) := by omega
        have k2 : (k : Int) < (m.length : Int) := by omega
        by_cases he : l[k] = m[k]
        · have he' : (l[k] != m[k]) = false := by simp [he]
          have HE := Lib.hid he
          clear he
          go_wp2_with fail
          go_quiet (fail)
          go_wp2_with fail
          go_roundw
          case rel => exact ⟨k + 1, by omega, by go_num, take_eq_snoc hlt hlt' HE.out ht.out, hB.drewN nq⟩
          case measure => simp [intOf]; omega
        · have he' : (l[k] != m[k]) = true := by simp [he]
          have HE := Lib.hid he
          clear he
          go_wp2_with fail
          go_quiet (fail)
          go_wp2_with fail
          go_ret
          exact Ret.bool (by have := take_ne hlt hlt' HE.out; simp [this]) (hB.drewN nq)
      · go_wp2_with fail
        go_ret
        exact Ret.bool (by have := take_eq_all hlt H0.out ht.out; simp [this]) hB
  · have hnm' : ((l.length : Int) != (m.length : Int)) = true := by simp; omega
    go_wp2_with fail
    go_ret
    refine ⟨ret_bool ?_, Below.refl _ _⟩
    have : l ≠ m := fun e => hnm (by rw [e])
    simp [this]

def exW : ByteArray := ⟨#[67, 84]⟩

/-- the sheet of the examples -/
def exL : List Tri := [⟨1, 0, exW⟩, ⟨1, 3, exW⟩, ⟨1, 0, exW⟩, ⟨1, 3, exW⟩]

theorem ex_steps : placesOf (rst 5 2 exL (-1)) = [0, 3, 0, 3] := by decide
theorem ex_best : placesOf (rst ((5 : Nat) : Int) ((2 : Nat) : Int) ((bsel ((5 : Nat) : Int) ((2 : Nat) : Int) exL (bfL exL) 4 0 1 0).map (xAt exL)) (-1)) = [0, 3] := by decide
theorem ex_best6 : (rst ((5 : Nat) : Int) ((2 : Nat) : Int) ((bsel ((5 : Nat) : Int) ((2 : Nat) : Int) exL (bfL exL) 4 0 1 0).map (xAt exL)) (-1)).length = 6 := by decide
theorem ex_quick : placesOf (qloop exL 5 5 2000 4 []) = [0] := by decide
theorem ex_chk2 : chkE 5 exL 2 = 0 := by decide
theorem ex_chk5 : chkE 5 exL 5 = 0 := by decide
theorem ex_sheet : sheetE 5 exL = 0 := by decide
end Go.Proofs.YtmfklcnocekdlaaGreatDoor

namespace Go.Proofs.YtmfklcnocekdlaaGreatDoor
open Go Go.RowKit Tor

/-- the sheet of the examples in memory -/
def ExPost (w : World) (e : Ending) (w' : World) : Prop := ∃ g, e = .returned (.agg #[.int .i64 5, .slice (some ⟨g, 0, none⟩) exL.length 4]) ∧ RdT w' w'.heap.size (some ⟨g, 0, none⟩) exL ∧ Below w.heap.size w w'

theorem rdT_of_blk {w : World} {g : Nat} {t : TypeId} (h : Blk w g t #[.int .i64 1, .int .i64 0, .string exW, .int .i64 1, .int .i64 3, .string exW, .int .i64 1, .int .i64 0, .string exW, .int .i64 1, .int .i64 3, .string exW]) : RdT w w.heap.size (some ⟨g, 0, none⟩) exL := fun _ =>
  ⟨g, 0, rfl, h.lt, fun k x hx j u hu => by
    unfold exL at hx
    match k, hx with
    | 0, hx => simp at hx; subst hx; match j, hu with
      | 0, hu => simp [Tri.enc] at hu; subst hu; exact h.cell 0 _ rfl
      | 1, hu => simp [Tri.enc] at hu; subst hu; exact h.cell 1 _ rfl
      | 2, hu => simp [Tri.enc] at hu; subst hu; exact h.cell 2 _ rfl
    | 1, hx => simp at hx; subst hx; match j, hu with
      | 0, hu => simp [Tri.enc] at hu; subst hu; exact h.cell 3 _ rfl
      | 1, hu => simp [Tri.enc] at hu; subst hu; exact h.cell 4 _ rfl
      | 2, hu => simp [Tri.enc] at hu; subst hu; exact h.cell 5 _ rfl
    | 2, hx => simp at hx; subst hx; match j, hu with
      | 0, hu => simp [Tri.enc] at hu; subst hu; exact h.cell 6 _ rfl
      | 1, hu => simp [Tri.enc] at hu; subst hu; exact h.cell 7 _ rfl
      | 2, hu => simp [Tri.enc] at hu; subst hu; exact h.cell 8 _ rfl
    | 3, hx => simp at hx; subst hx; match j, hu with
      | 0, hu => simp [Tri.enc] at hu; subst hu; exact h.cell 9 _ rfl
      | 1, hu => simp [Tri.enc] at hu; subst hu; exact h.cell 10 _ rfl
      | 2, hu => simp [Tri.enc] at hu; subst hu; exact h.cell 11 _ rfl⟩

theorem example_any (w : World) : Calls Tryz.prog 22 #[] w (ExPost w) := by
  go_enter Tryz.func22, Tryz.ntmps22
  go_wp2_with fail
  have hb := Blk.new (((w.alloc (.cells #[.int .i64 5, .slice (some ⟨w.heap.size + 1 + 1 + 1, 0, none⟩) 4 4] 33)).alloc (.cells #[.int .i64 1, .int .i64 0, .string exW] 79)).alloc (.cells #[.int .i64 1, .int .i64 3, .string exW] 79)) 79 #[.int .i64 1, .int .i64 0, .string exW, .int .i64 1, .int .i64 3, .string exW, .int .i64 1, .int .i64 0, .string exW, .int .i64 1, .int .i64 3, .string exW]
  rw [World.size_alloc, World.size_alloc, World.size_alloc] at hb
  exact bodyPost_ret (v := .agg #[.int .i64 5, .slice (some ⟨w.heap.size + 1 + 1 + 1, 0, none⟩) 4 4]) (by simp [results, Tryz.results22, go_sem]) rfl ⟨_, rfl, rdT_of_blk hb, by (repeat' first | exact Below.refl _ _ | apply Below.drew | (refine Below.setCells ?_ _ _ ?_) | (refine Below.setCell ?_ ?_ _) | (refine Below.alloc ?_ ?_ _) | (simp; done) | (simp; omega))⟩

theorem cSteps_ok (P S : Int) (A : Option Addr) (l : List Tri) (c : Nat) (w : World) (H : Nat) (hr : RdT w H A l) (hH : H ≤ w.heap.size)
    (hw : ∀ (k : Nat) (hk : k < l.length), l[k].s.size ≤ 9223372036854775807) (hchk : chkE P l S = 0)
    (hb : ∀ (k : Nat) (hk : k < l.length), 0 ≤ l[k].b ∧ l[k].b ≤ P - 2) (hl : l.length ≤ 1000) (b1 : 2 ≤ S) (b2 : S ≤ P) (b3 : P ≤ 24) :
    Calls Tryz.prog 14 #[.agg #[.int .i64 P, .slice A l.length c], .int .i64 S] w fun e w' => ∃ v, e = .returned (.tuple #[v, .int .i64 0]) ∧ Own 3 Tri.enc w' w.heap.size 52 v (rst P S l (-1)) ∧ Below w.heap.size w w' := by
  have HC := Lib.hid hchk
  have HB := Lib.hid hb
  have HW := Lib.hid hw
  clear hchk hb hw
  go_enter Tryz.func14, Tryz.ntmps14
  go_wp2_with (first
    | (go_at_call 43; refine (ccheck_any P A l c S w.heap.size 0 _ H (hr.below' (B' := w.heap.size) (by (repeat' first | exact Below.refl _ _ | apply Below.drew | (refine Below.setCells ?_ _ _ ?_) | (refine Below.setCell ?_ ?_ _) | (refine Below.alloc ?_ ?_ _) | (simp; done) | (simp; omega))) hH) (by simp; omega) (by simp) (by simp) HW.out (by omega)).mono ?_; rintro e w1 ⟨rfl, hB1⟩; rw [HC.out]
       have kS := (Blk.new w 33 #[.int .i64 P, .slice A l.length c]).below' hB1
       have c0 := kS.cell 0 (.int .i64 P) rfl
       have c1 := kS.cell 1 (.slice A l.length c) rfl
       have hBw : Below w.heap.size w w1 := Below.trans (b := w.alloc (.cells #[.int .i64 P, .slice A l.length c] 33)) (by (repeat' first | exact Below.refl _ _ | apply Below.drew | (refine Below.setCells ?_ _ _ ?_) | (refine Below.setCell ?_ ?_ _) | (refine Below.alloc ?_ ?_ _) | (simp; done) | (simp; omega))) (hB1.mono (by simp))
       have hz := hBw.size)
    | (go_at_call 44; refine (csteps_any P A l c S w.heap.size 0 w1 H (hr.below' hBw hH) (by omega) c0 c1 HB.out hl b1 b2 b3).mono ?_; rintro e w9 ⟨vv, rfl, hownF, hBF⟩))
  go_ret2
  exact ⟨vv, rfl, hownF.base hz, hBw.trans (hBF.mono hz)⟩
theorem cSteps_err (P S : Int) (A : Option Addr) (l : List Tri) (c : Nat) (w : World) (H : Nat) (hr : RdT w H A l) (hH : H ≤ w.heap.size)
    (hw : ∀ (k : Nat) (hk : k < l.length), l[k].s.size ≤ 9223372036854775807) (hchk : chkE P l S ≠ 0) (hl : l.length ≤ 9223372036854775807) :
    Calls Tryz.prog 14 #[.agg #[.int .i64 P, .slice A l.length c], .int .i64 S] w fun e w' => e = .returned (.tuple #[.slice none 0 0, .int .i64 (chkE P l S)]) ∧ Below w.heap.size w w' := by
  have t1 : (chkE P l S != 0) = true := by simpa using hchk
  have HC := Lib.hid hchk
  have HW := Lib.hid hw
  clear hchk hw
  go_enter Tryz.func14, Tryz.ntmps14
  go_wp2_with (first
    | (go_at_call 43; refine (ccheck_any P A l c S w.heap.size 0 _ H (hr.below' (B' := w.heap.size) (by (repeat' first | exact Below.refl _ _ | apply Below.drew | (refine Below.setCells ?_ _ _ ?_) | (refine Below.setCell ?_ ?_ _) | (refine Below.alloc ?_ ?_ _) | (simp; done) | (simp; omega))) hH) (by simp; omega) (by simp) (by simp) HW.out (by omega)).mono ?_; rintro e w1 ⟨rfl, hB1⟩
       have hBw : Below w.heap.size w w1 := Below.trans (b := w.alloc (.cells #[.int .i64 P, .slice A l.length c] 33)) (by (repeat' first | exact Below.refl _ _ | apply Below.drew | (refine Below.setCells ?_ _ _ ?_) | (refine Below.setCell ?_ ?_ _) | (refine Below.alloc ?_ ?_ _) | (simp; done) | (simp; omega))) (hB1.mono (by simp))))
  go_ret2
  exact ⟨rfl, hBw⟩
theorem ex_words : ∀ (k : Nat) (hk : k < exL.length), exL[k].s.size ≤ 9223372036854775807 := by decide
theorem ex_bounds : ∀ (k : Nat) (hk : k < exL.length), 0 ≤ exL[k].b ∧ exL[k].b ≤ 5 - 2 := by decide

theorem steps_ex (A : Option Addr) (c : Nat) (w : World) (hr : RdT w w.heap.size A exL) : Calls Tryz.prog 14 #[.agg #[.int .i64 5, .slice A exL.length c], .int .i64 2] w fun e w' => ∃ (A' : Option Addr) (l : List Tri) (c' : Nat), e = .returned (.tuple #[.slice A' l.length c', .int .i64 0]) ∧ RdT w' w'.heap.size A' l ∧ l.length ≤ 100 ∧ Hid (placesOf l = [0, 3, 0, 3]) ∧ Below w.heap.size w w' :=
  (cSteps_ok 5 2 A exL c w w.heap.size hr (Nat.le_refl _) ex_words ex_chk2 ex_bounds (by decide) (by decide) (by decide) (by decide)).mono fun e w' ⟨v, h1, h2, h3⟩ => by
    obtain ⟨A', c', hv, _, hd⟩ := Own.rd tri_len h2
    exact ⟨A', _, c', by rw [h1, hv], hd, by decide, ex_steps, h3⟩
theorem best_ex (A : Option Addr) (c : Nat) (w : World) (hr : RdT w w.heap.size A exL) (hc : 4 ≤ c) : Calls Tryz.prog 16 #[.agg #[.int .i64 5, .slice A exL.length c], .int .i64 2] w fun e w' => ∃ (A' : Option Addr) (l : List Tri) (c' : Nat), e = .returned (.tuple #[.slice A' l.length c', .int .i64 0]) ∧ RdT w' w'.heap.size A' l ∧ Hid (l.length = 6) ∧ Hid (placesOf l = [0, 3]) ∧ Below w.heap.size w w' :=
  (cbest_any 5 2 A exL c w w.heap.size hr (Nat.le_refl _) ex_words ex_chk2 ex_sheet ex_bounds (by decide) hc (by decide) (by decide) (by decide)).mono fun e w' ⟨v, h1, h2, h3⟩ => by
    obtain ⟨A', c', hv, _, hd⟩ := Own.rd tri_len h2
    exact ⟨A', _, c', by rw [h1, hv], hd, ex_best6, ex_best, h3⟩
theorem quick_ex (A : Option Addr) (c : Nat) (w : World) (hr : RdT w w.heap.size A exL) : Calls Tryz.prog 23 #[.agg #[.int .i64 5, .slice A exL.length c], .int .i64 5] w fun e w' => ∃ (A' : Option Addr) (l : List Tri) (c' : Nat), e = .returned (.tuple #[.slice A' l.length c', .int .i64 0]) ∧ RdT w' w'.heap.size A' l ∧ l.length ≤ 100 ∧ Hid (placesOf l = [0]) ∧ Below w.heap.size w w' :=
  (quick_any 5 5 A exL c w w.heap.size hr (Nat.le_refl _) ex_words ex_chk5 ex_bounds (by decide) (by decide) (by decide) (by decide)).mono fun e w' ⟨v, h1, h2, h3⟩ => by
    obtain ⟨A', c', hv, _, hd⟩ := Own.rd tri_len h2
    exact ⟨A', _, c', by rw [h1, hv], hd, by decide, ex_quick, h3⟩

theorem ints_new {w : World} {g : Nat} {t : TypeId} : ∀ {l : List Int}, Blk w g t (l.map (Value.int .i64)).toArray → RdI w w.heap.size (some ⟨g, 0, none⟩) l := fun {l} h _ =>
  ⟨g, 0, rfl, h.lt, fun k x hx j u hu => by
    match j, hu with
    | 0, hu =>
      simp [ienc] at hu
      subst hu
      exact (by simpa using h.cell (0 + k * 1 + 0) (.int .i64 x) (by simp [hx]))⟩

theorem places_rd (A : Option Addr) (l : List Tri) (c : Nat) (w : World) (H : Nat) (hl : l.length ≤ 100000) (ha : RdT w H A l) (hH : H ≤ w.heap.size) {L : List Int} (hL : Hid (placesOf l = L)) :
    Calls Tryz.prog 25 #[.slice A l.length c] w fun e w' => ∃ A' c', e = .returned (.slice A' L.length c') ∧ RdI w' w'.heap.size A' L ∧ Below w.heap.size w w' :=
  (places_any A l c w H hl ha hH).mono fun e w' ⟨v, h1, h2, h3⟩ => by
    obtain ⟨A', c', hv, _, hd⟩ := Own.rd int_len h2
    rw [hL.out] at hv hd
    exact ⟨A', c', by rw [h1, hv], hd, h3⟩

theorem sameInts_eq (A B : Option Addr) (l : List Int) (c d : Nat) (w : World) (H : Nat) (hl : l.length ≤ 100000) (ha : RdI w H A l) (hb : RdI w H B l) (hH : H ≤ w.heap.size) :
    Calls Tryz.prog 24 #[.slice A l.length c, .slice B l.length d] w (Ret (.bool true) w) :=
  (sameInts_any A B l l c d w H hl hl ha hb hH).mono fun e w' ⟨h1, h2⟩ => ⟨by rw [h1]; simp, h2⟩
theorem rdI_alloc {w : World} {A : Option Addr} {l : List Int} (h : RdI w w.heap.size A l) (o : Obj) : RdI (w.alloc o) (w.alloc o).heap.size A l := (h.below ((Below.refl _ _).alloc (Nat.le_refl _) _)).more (by simp)


set_option maxRecDepth 100000 in
set_option maxHeartbeats 1000000 in
theorem awake_any (w : World) : Calls Tryz.prog 6 #[] w (Ret (.bool true) w) := by
  go_enter Tryz.func6, Tryz.ntmps6
  go_wp2_with fail
  refine (example_any _).mono ?_
  rintro e w1 ⟨g1, rfl, hr1, hB1⟩
  go_wp2_with fail
  refine (steps_ex _ _ _ hr1).mono ?_
  rintro e w2 ⟨A2, l2, c2, rfl, hr2, hn2, hp2, hB2⟩
  go_wp2_with fail
  refine (example_any _).mono ?_
  rintro e w3 ⟨g3, rfl, hr3, hB3⟩
  go_wp2_with fail
  refine (best_ex _ _ _ hr3 (Nat.le_refl _)).mono ?_
  rintro e w4 ⟨A4, l4, c4, rfl, hr4, hn4, hp4, hB4⟩
  go_wp2_with fail
  refine (example_any _).mono ?_
  rintro e w5 ⟨g5, rfl, hr5, hB5⟩
  go_wp2_with fail
  refine (quick_ex _ _ _ hr5).mono ?_
  rintro e w6 ⟨A6, l6, c6, rfl, hr6, hn6, hp6, hB6⟩
  have hB26 : Below w2.heap.size w2 w6 := ((hB3.trans (hB4.mono hB3.size)).trans (hB5.mono (Nat.le_trans hB3.size hB4.size))).trans (hB6.mono (Nat.le_trans (Nat.le_trans hB3.size hB4.size) hB5.size))
  have hB46 : Below w4.heap.size w4 w6 := hB5.trans (hB6.mono hB5.size)
  have hBw6 : Below w.heap.size w w6 := (hB1.trans (hB2.mono hB1.size)).trans (hB26.mono (Nat.le_trans hB1.size hB2.size))
  go_wp2_with fail
  refine (places_rd A2 l2 c2 w6 _ (by omega) (hr2.below hB26) hB26.size hp2).mono ?_
  rintro e w7 ⟨A7, c7, rfl, hr7, hB7⟩
  go_wp2_with fail
  refine (sameInts_eq A7 _ [0, 3, 0, 3] c7 4 _ _ (by decide) (rdI_alloc hr7 _) (ints_new (l := [0, 3, 0, 3]) (Blk.new w7 _ _)) (Nat.le_refl _)).mono ?_
  rintro e w8 ⟨rfl, hB8⟩
  have hB68 : Below w6.heap.size w6 w8 := (hB7.alloc hB7.size _).trans (hB8.mono (by have := hB7.size; simp; omega))
  go_wp2_with fail
  refine (places_rd A4 l4 c4 w8 _ (by have := hn4.out; omega) ((hr4.below hB46).below' hB68 hB46.size) (Nat.le_trans hB46.size hB68.size) hp4).mono ?_
  rintro e w9 ⟨A9, c9, rfl, hr9, hB9⟩
  go_wp2_with fail
  refine (sameInts_eq A9 _ [0, 3] c9 2 _ _ (by decide) (rdI_alloc hr9 _) (ints_new (l := [0, 3]) (Blk.new w9 _ _)) (Nat.le_refl _)).mono ?_
  rintro e w10 ⟨rfl, hB10⟩
  have hB8_10 : Below w8.heap.size w8 w10 := (hB9.alloc hB9.size _).trans (hB10.mono (by have := hB9.size; simp; omega))
  have hB6_10 : Below w6.heap.size w6 w10 := hB68.trans (hB8_10.mono hB68.size)
  go_wp2_with fail
  refine (places_rd A6 l6 c6 w10 _ (by omega) (hr6.below hB6_10) hB6_10.size hp6).mono ?_
  rintro e w11 ⟨A11, c11, rfl, hr11, hB11⟩
  go_wp2_with fail
  refine (sameInts_eq A11 _ [0] c11 1 _ _ (by decide) (rdI_alloc hr11 _) (ints_new (l := [0]) (Blk.new w11 _ _)) (Nat.le_refl _)).mono ?_
  rintro e w12 ⟨rfl, hB12⟩
  have t6 : ((l4.length : Int) == 6) = true := by have := hn4.out; simp; omega
  go_wp2_with fail
  go_ret
  exact Ret.bool rfl ((hBw6.trans (hB6_10.mono hBw6.size)).trans (((hB11.alloc hB11.size _).trans (hB12.mono (by have := hB11.size; simp; omega))).mono (Nat.le_trans hBw6.size hB6_10.size)))
end Go.Proofs.YtmfklcnocekdlaaGreatDoor

namespace Go.Proofs.YtmfklcnocekdlaaGreatDoor
open Go Go.RowKit Tor

/-- is it more than is looked at? -/
def farB (n : Nat) (m : Int) : Bool := (decide (m < (n : Int)) && decide (n ≤ 400)) || decide (450 < n)


/-- a sheet that is checked -/
structure Good (p : Int) (l : List Tri) (s : Int) : Prop where
  b1 : 2 ≤ s
  b2 : s ≤ p
  b3 : p ≤ 24
  n : l.length ≤ 400
  b : ∀ (k : Nat) (hk : k < l.length), 0 ≤ l[k].b ∧ l[k].b ≤ p - 2
  sh : sheetE p l = 0
theorem good_of {p s : Int} {l : List Tri} (h : chkE p l s = 0) : Good p l s := by
  unfold chkE at h
  by_cases hs : sheetE p l = 0
  · rw [if_pos hs] at h
    have hsp : spansB p s = true := by
      cases hsp : spansB p s
      · rw [hsp] at h; simp at h
      · rfl
    unfold spansB at hsp
    simp only [Bool.and_eq_true, decide_eq_true_eq] at hsp
    have hs2 := hs
    unfold sheetE at hs2
    split at hs2
    · cases hs2
    · rename_i h3
      split at hs2
      · cases hs2
      · split at hs2
        · cases hs2
        · rename_i hbad
          have hbad' : l.any (badW p) = false := by simpa using hbad
          have h24 : ¬ 24 < p := fun h => h3 (Or.inl h)
          have h400 : ¬ 400 < l.length := fun h => h3 (Or.inr (Or.inl h))
          refine ⟨by omega, by omega, by omega, by omega, fun k hk => ?_, hs⟩
          have := any_not hbad' k hk
          rw [badW_false] at this
          omega
  · rw [if_neg hs] at h; exact absurd h hs
end Go.Proofs.YtmfklcnocekdlaaGreatDoor

namespace Tor
open Go Go.RowKit

def Ex.here (w : World) : Ex w := ⟨w, Below.refl _ _⟩
theorem Ex.lt {w0 : World} (g : Ex w0) {b : Nat} (h : b < w0.heap.size) : b < g.w.heap.size := Nat.lt_of_lt_of_le h g.h.size
attribute [go_sem] Ex.lt
theorem Ex.le {w0 : World} (g : Ex w0) {b : Nat} (h : b ≤ w0.heap.size) : b ≤ g.w.heap.size := Nat.le_trans h g.h.size
theorem le_alloc {w : World} {o : Obj} {b : Nat} (h : b ≤ w.heap.size) : b ≤ (w.alloc o).heap.size := by simp; omega
theorem lt_alloc {w : World} {o : Obj} {b : Nat} (h : b ≤ w.heap.size) : b < (w.alloc o).heap.size := by simp; omega
theorem Ex.on {B : Nat} {w w0 : World} (h : Below B w w0) (hB : B ≤ w0.heap.size) (g : Ex w0) : Below B w g.w := h.trans (g.h.mono hB)
@[go_sem] theorem Ex.frozen {w0 : World} (g : Ex w0) (b o : Nat) (hb : b < w0.heap.size) : g.w.frozen? ⟨b, o, none⟩ = w0.frozen? ⟨b, o, none⟩ := g.h.frozen (p := ⟨b, o, none⟩) hb
theorem _root_.Go.RowKit.Below.ex {w w' : World} (h : Below w.heap.size w w') : ∃ g : Ex w, w' = g.w := ⟨⟨w', h⟩, rfl⟩

/-- the call's world as a term -/
theorem cx {P : Program} {f : FuncId} {args : Array Value} {w : World} {v : Value} (h : Calls P f args w (Ret v w)) :
    Calls P f args w fun e w' => e = .returned v ∧ ∃ g : Ex w, w' = g.w := h.mono fun _ _ ⟨he, hb⟩ => ⟨he, hb.ex⟩
theorem Rd.ex {α : Type} {sz : Nat} {enc : α → List Value} {w0 : World} {B : Nat} {A : Option Addr} {l : List α} (h : Rd sz enc w0 B A l) (hB : B ≤ w0.heap.size) (g : Ex w0) : Rd sz enc g.w B A l := h.below' g.h hB
theorem Rd.al {α : Type} {sz : Nat} {enc : α → List Value} {w0 : World} {B : Nat} {A : Option Addr} {l : List α} (h : Rd sz enc w0 B A l) (hB : B ≤ w0.heap.size) (o : Obj) : Rd sz enc (w0.alloc o) B A l :=
  h.below' ((Below.refl w0.heap.size w0).alloc (Nat.le_refl _) o) hB
theorem Rd.dr {α : Type} {sz : Nat} {enc : α → List Value} {w0 : World} {B : Nat} {A : Option Addr} {l : List α} (h : Rd sz enc w0 B A l) : Rd sz enc w0.drew B A l := h
end Tor
