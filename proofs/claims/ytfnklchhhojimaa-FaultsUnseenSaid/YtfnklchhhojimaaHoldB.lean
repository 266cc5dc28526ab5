/- torchonref18.Hold: the letters of a sheet. -/
import Derived.Test.YtfnklchhhojimaaHoldA
import Derived.Maps.AppendAt
set_option linter.unusedSimpArgs false
set_option linter.unusedVariables false
namespace Go.Proofs.Ytfnklchhhojimaa
open Go Go.RowKit Tor Brd

/-- append of one number, and where the row lies behind it -/
theorem wpList_append_iat {P : Program} {ops : Array Oper} {rest : List Oper} {o : Oper} {a : Act} {Q : Exit → Act → World → Prop} {w : World} (hgd : o.guard = none) (s x : Operand) (t : TypeId)
    (ho : o.op = .call { callee := .builtin .append, args := #[s, x], argTypes := #[t, t] })
    (base : Nat) (e : TypeId) (i : TypeInfo) (z : Value) (ht : P.underlying t = some (.slice e)) (hi : P.info? e = some i) (hz : i.zero = some z)
    (hsize : i.size = 1) (hby : i.bytes = 8) (hzs : z.cells.size = 1)
    (v : Value) (l : List Int) (hs : a.eval s = v) (hown : Tor.Own 1 ienc w base e v l)
    (g : Nat) (y : Int) (hx : a.eval x = .slice (some ⟨g, 0, none⟩) 1 1) (h0 : w.cell? ⟨g, 0, none⟩ = some (.int .i64 y))
    (hlen : l.length ≤ 1000000) (hbase : base ≤ w.heap.size)
    (h : ∀ v' w', Tor.Own 1 ienc w' base e v' (l ++ [y]) → w.grownBy w' v.ownBlock → (v'.ownBlock = v.ownBlock ∨ v'.ownBlock = some w.heap.size) → wpList P ops Q rest (a.put o.dst v') w') : wpList P ops Q (o :: rest) a w := by
  obtain ⟨v', w', hr, h2, h3, h4, h5⟩ := run_append_own_at (P := P) w base t o.type e i z 1 8 ht hi hz hsize hby hzs (by omega) v l.length (l.flatMap ienc) hown ⟨g, 0, none⟩ 1 1 (ienc y) rfl
    (by intro j u hu; match j, hu with | 0, hu => simp [ienc] at hu; subst hu; simpa [Addr.add] using h0)
    (int_one y) (by unfold maxLen; omega) (by omega) hbase
  refine wpList_plain hgd fun K hK => ?_
  unfold Oper.wp execOp
  simp only [ho, resolve, invoke, builtin, Sem.run_bind, Sem.run_pure, Result.andThen_ok, List.map_toArray, List.map_cons, List.map_nil, hs, hx, hr]
  exact hK _ _ (h v' w' (Own.append1 rfl h2) h3 h5)
/-- the same in a region that draws its order -/
theorem step_append_iat {P : Program} {ops : Array Oper} {o : Oper} {a : Act} {K : Act → World → Prop} {Q : Exit → Act → World → Prop} {E : Prop} {w : World} (hgd : o.guard = none) (s x : Operand) (t : TypeId)
    (ho : o.op = .call { callee := .builtin .append, args := #[s, x], argTypes := #[t, t] })
    (base : Nat) (e : TypeId) (i : TypeInfo) (z : Value) (ht : P.underlying t = some (.slice e)) (hi : P.info? e = some i) (hz : i.zero = some z)
    (hsize : i.size = 1) (hby : i.bytes = 8) (hzs : z.cells.size = 1)
    (v : Value) (l : List Int) (hs : a.eval s = v) (hown : Tor.Own 1 ienc w base e v l)
    (g : Nat) (y : Int) (hx : a.eval x = .slice (some ⟨g, 0, none⟩) 1 1) (h0 : w.cell? ⟨g, 0, none⟩ = some (.int .i64 y))
    (hlen : l.length ≤ 1000000) (hbase : base ≤ w.heap.size)
    (h : ∀ v' w', Tor.Own 1 ienc w' base e v' (l ++ [y]) → w.grownBy w' v.ownBlock → (v'.ownBlock = v.ownBlock ∨ v'.ownBlock = some w.heap.size) → K (a.put o.dst v') w') :
    if Region.wanted o (yielded ops a.tmps) = true then Oper.wp P o a w K Q else E := by
  have hw : Region.wanted o (yielded ops a.tmps) = true := by simp [Region.wanted, hgd]
  rw [if_pos hw]
  obtain ⟨v', w', hr, h2, h3, h4, h5⟩ := run_append_own_at (P := P) w base t o.type e i z 1 8 ht hi hz hsize hby hzs (by omega) v l.length (l.flatMap ienc) hown ⟨g, 0, none⟩ 1 1 (ienc y) rfl
    (by intro j u hu; match j, hu with | 0, hu => simp [ienc] at hu; subst hu; simpa [Addr.add] using h0)
    (int_one y) (by unfold maxLen; omega) (by omega) hbase
  have hK := h v' w' (Own.append1 rfl h2) h3 h5
  unfold Oper.wp execOp
  simp only [ho, resolve, invoke, builtin, Sem.run_bind, Sem.run_pure, Result.andThen_ok, List.map_toArray, List.map_cons, List.map_nil, hs, hx, hr]
  exact hK

/-- the letters while they are gathered: variable h lies in block g -/
structure HSt (w wr : World) (g : Nat) (n : Int) (p : Int) (A : Option Addr) (m c : Nat) (v : Value) (D : List Int) : Prop where
  lo : w.heap.size + 2 ≤ g
  h : Blk wr g 57 #[.int .i64 n, v]
  own : Tor.Own 1 ienc wr (w.heap.size + 2) 3 v D
  s : Blk wr w.heap.size 35 #[.int .i64 p, .slice A m c]
  r : Blk wr (w.heap.size + 1) 57 #[.int .i64 0, .slice none 0 0]
  bl : Below w.heap.size w wr
section
variable {w wr wa w8 : World} {g : Nat} {n p : Int} {A : Option Addr} {m c : Nat} {v v' : Value} {D D' : List Int}
theorem HSt.below (h : HSt w wr g n p A m c v D) (hB : Below wr.heap.size wr wa) : HSt w wa g n p A m c v D :=
  ⟨h.lo, h.h.below' hB, h.own.below hB, h.s.below' hB, h.r.below' hB, h.bl.trans (hB.mono h.bl.size)⟩
theorem HSt.alloc (h : HSt w wr g n p A m c v D) (o : Obj) : HSt w (wr.alloc o) g n p A m c v D :=
  h.below ((Below.refl _ _).alloc (Nat.le_refl _) o)
theorem HSt.ne (h : HSt w wr g n p A m c v D) {k : Nat} {t : TypeId} {cs : Array Value} (hk : Blk wr k t cs) (ht : t ≠ 3) : some k ≠ v.ownBlock := h.own.ne_block hk ht
/-- one number more -/
theorem HSt.push (h : HSt w wr g n p A m c v D) (hg : wr.grownBy w8 v.ownBlock) (ho : Tor.Own 1 ienc w8 (w.heap.size + 2) 3 v' D') :
    HSt w (w8.setCell ⟨g, 1, none⟩ v') g n p A m c v' D' := by
  have lo := h.lo
  have g8 := h.h.grown hg (h.ne h.h (by decide))
  have s8 := h.s.grown hg (h.ne h.s (by decide))
  have r8 := h.r.grown hg (h.ne h.r (by decide))
  have hz := h.bl.size
  have b8 : Below w.heap.size w w8 := Tor.Own.grown (h.own.base (base' := w.heap.size) (by omega)) h.bl hg hz
  refine ⟨lo, by simpa using g8.set_ 1 v', ownsRow_setCell_other ho (ho.ne_block g8 (by decide)).symm _, s8.far (by show w.heap.size ≠ g; omega) _, r8.far (by show w.heap.size + 1 ≠ g; omega) _, b8.setCell (p := ⟨g, 1, none⟩) (by show w.heap.size ≤ g; omega) _⟩
theorem HSt.other (h : HSt w wr g n p A m c v D) (hg : wr.grownBy w8 v.ownBlock) {k : Nat} {t : TypeId} {cs : Array Value} (hk : Blk wr k t cs) (ht : t ≠ 3) (hne : k ≠ g) (u : Value) : Blk (w8.setCell ⟨g, 1, none⟩ u) k t cs :=
  (hk.grown hg (h.ne hk ht)).far (by show k ≠ g; exact hne) _
end
theorem ownRdI {w : World} {base : Nat} {e : TypeId} {A : Option Addr} {n c : Nat} {l : List Int} (h : Tor.Own 1 ienc w base e (.slice A n c) l) : RdI w w.heap.size A l := by
  obtain ⟨A', c', e, _, hr⟩ := Tor.Own.rd int_len h
  injection e with e1 _ _
  rw [e1]; exact hr
/-- a row that is read, apart from the letters -/
def Apart (w : World) (g : Nat) (v : Value) (A : Option Addr) : Prop := ∀ a, A = some a → a.block < w.heap.size ∧ a.block ≠ g ∧ v.ownBlock ≠ some a.block
section
variable {wr w8 : World} {g H : Nat} {v v' : Value} {A : Option Addr} {l : List Int}
theorem Apart.grown {W : World} (ha : Apart W g v A) (hs : W.heap.size ≤ wr.heap.size) (hg : wr.grownBy w8 v.ownBlock) (hv : v'.ownBlock = v.ownBlock ∨ v'.ownBlock = some wr.heap.size) (u : Value) : Apart (w8.setCell ⟨g, 1, none⟩ u) g v' A := fun a e => by
  obtain ⟨h1, h2, h3⟩ := ha a e
  have := hg.size
  refine ⟨by simp; omega, h2, fun e => ?_⟩
  rcases hv with hv | hv
  · exact h3 (hv.symm.trans e)
  · rw [hv] at e; injection e with e; omega
theorem Rd.keepA {wa : World} (h : RdI wr H A l) (ha : Apart wr g v A) (hB : Below wr.heap.size wr wa) : RdI wa H A l := fun hl => by
  obtain ⟨b, o, rfl, hb, hc⟩ := h hl
  obtain ⟨h1, h2, h3⟩ := ha _ rfl
  exact ⟨b, o, rfl, hb, fun k x hx j u hu => (hB.cell (p := ⟨b, o + k * 1 + j, none⟩) h1).trans (hc k x hx j u hu)⟩
theorem Rd.grown {W : World} (h : RdI wr H A l) (ha : Apart W g v A) (hs : W.heap.size ≤ wr.heap.size) (hg : wr.grownBy w8 v.ownBlock) : RdI w8 H A l := fun hl => by
  obtain ⟨b, o, rfl, hb, hc⟩ := h hl
  obtain ⟨h1, h2, h3⟩ := ha _ rfl
  have hh := hg.block b (Nat.lt_of_lt_of_le h1 hs) (fun e => h3 e.symm)
  refine ⟨b, o, rfl, hb, fun k x hx j u hu => ?_⟩
  have := hc k x hx j u hu
  simpa [World.cell?, hh] using this
theorem Rd.setG {W : World} (h : RdI w8 H A l) (ha : Apart W g v A) (u : Value) : RdI (w8.setCell ⟨g, 1, none⟩ u) H A l := fun hl => by
  obtain ⟨b, o, rfl, hb, hc⟩ := h hl
  obtain ⟨h1, h2, h3⟩ := ha _ rfl
  refine ⟨b, o, rfl, hb, fun k x hx j v hv => ?_⟩
  have := hc k x hx j v hv
  rw [← this]
  have h2' : b ≠ g := h2
  simp [World.cell?, World.setCell, Array.getElem?_modify, Ne.symm h2']
end
theorem cell_ret2 {T : TypeId} {fn : Func} {p u : Tmp} (h : fn.results = #[.cell p T, .tmp u]) {R : Ending → World → Prop} {a : Act} {w : World} {g : Nat} {x y : Value} (hp : a.tmps.getD p undef = .pointer (some ⟨g, 0, none⟩))
    (hT : T = 57) (hb : Blk w g T #[x, y]) (hd : a.defers = []) (hR : R (.returned (.tuple #[.agg #[x, y], a.tmps.getD u undef])) w) : bodyPost Try.prog fn R .ret a w := by
  subst hT
  refine bodyPost_ret (v := .tuple #[.agg #[x, y], a.tmps.getD u undef]) ?_ hd hR
  have c0 := hb.cell 0 x rfl
  have c1 := hb.cell 1 y rfl
  have hp' : a.tmps[p]?.getD undef = .pointer (some ⟨g, 0, none⟩) := by simpa using hp
  simp only [results, h]
  simp [Sem.run_bind, Result.andThen, hp']
  go_simp

theorem apart_of {w wr w3 : World} {g : Nat} {n p : Int} {A A2 : Option Addr} {m c m2 c2 : Nat} {v : Value} {D L : List Int} (h : HSt w wr g n p A m c v D) (hB : Below wr.heap.size wr w3) (ho : Tor.Own 1 ienc w3 wr.heap.size 3 (.slice A2 m2 c2) L) : Apart w3 g v A2 := fun a e => by
  subst e
  obtain ⟨_, h2⟩ := ho
  rcases h2 with ⟨h2, _⟩ | ⟨g', cap, cur, hv, hg, hh, _⟩
  · cases h2
  · injection hv with hv _ _
    injection hv with hv
    subst hv
    have h1 := h.h.lt
    refine ⟨(Array.getElem?_eq_some_iff.1 hh).1, by show g' ≠ g; omega, fun e => ?_⟩
    have := (World.ownsRow.lt h.own _ e).2
    have e2 : (⟨g', 0, none⟩ : Addr).block = g' := rfl
    omega
/-- the piece of a string at one letter -/
theorem oneSl (s : ByteArray) (j : Nat) (hlt : j < s.size) (hs : s.size ≤ 4000000) (c : UInt8) (hc : s[j]'hlt = c) (W : World) :
    (Instr.slice 9 (.string s) (some (.int .i64 (j : Int))) (some (.int .i64 ((j : Int) + 1))) none).run Try.prog W = .ok (.string (oneB c)) W := by
  have := run_slice_string (P := Try.prog) W 9 s .i64 .i64 (j : Int) ((j : Int) + 1) Try.underlying9 (by omega) (by omega) (by omega)
  have he : s.extract j (j + 1) = oneB c := by
    refine ByteArray.ext (Array.ext' ?_)
    rw [ByteArray.data_extract]
    simp only [oneB, Array.toList_extract, List.extract_eq_take_drop]
    have hb := bsize s
    rw [show j + 1 - j = 1 by omega, List.drop_eq_getElem_cons (by omega), bgetL s j hlt, hc]
    rfl
  rw [Int.toNat_natCast, show ((j : Int) + 1).toNat = j + 1 by omega, he] at this
  exact this

set_option maxRecDepth 100000 in
set_option maxHeartbeats 8000000 in
theorem hold_any (p : Int) (A : Option Addr) (l : List Tri) (c : Nat) (w : World) (H : Nat) (hr : RdT w H A l) (hH : H ≤ w.heap.size) (hok : sheetE p l = 0) (hl : l.length ≤ 60) :
    Calls Try.prog 18 #[.agg #[.int .i64 p, .slice A l.length c]] w (fun e w' => ∃ v, e = .returned (.tuple #[.agg #[.int .i64 (2 * p), v], .int .i64 0]) ∧ Tor.Own 1 ienc w' w.heap.size 3 v (hlL l) ∧ Below w.heap.size w w') := by
  obtain ⟨i0, hi0, hz0', hz1', hz2'⟩ := info_parts infoI
  have hwk := wok_of hok
  have hp24 : p ≤ 24 ∧ 2 ≤ p := by
    unfold sheetE at hok
    split at hok
    · cases hok
    · split at hok
      · cases hok
      · omega
  have hwd : ∀ (k : Nat) (hk : k < l.length), l[k].s.size ≤ 9223372036854775807 := fun k hk => by have := (wordE_letters (hwk _ (List.getElem_mem hk)).w).1; omega
  have HW := Lib.hid (fun (k : Nat) (hk : k < l.length) => hwk _ (List.getElem_mem hk))
  have HLEN := Lib.hid (hlL_len l (fun x hx => (wordE_letters (hwk x hx).w).1))
  have HCH := Lib.hid (fun (w' : World) (hB : Below w.heap.size w w') => (by have := sheetRef_any p A l c w' H (hr.below' hB hH) (Nat.le_trans hH hB.size) hwd (by omega); rw [hok] at this; exact this : Calls Try.prog 46 #[.agg #[.int .i64 p, .slice A l.length c]] w' (Ret (.int .i64 0) w')))
  clear hwk hok hwd
  have e2p : IntKind.i64.wrap (2 * p) = 2 * p := IntWalk.i64_in _ (by omega)
  obtain ⟨W0, hW0⟩ : ∃ W0, Hid (W0 = (w.alloc (.cells #[.int .i64 p, .slice A l.length c] 35)).alloc (.cells #[.int .i64 0, .slice none 0 0] 57)) := ⟨_, Lib.hid rfl⟩
  have hBB : Below w.heap.size w W0 := by rw [hW0.out]; (repeat' first | exact Below.refl _ _ | apply Below.drew | (refine Below.setCells ?_ _ _ ?_) | (refine Below.setCell ?_ ?_ _) | (refine Below.alloc ?_ ?_ _) | (simp; done) | (simp; omega))
  have kS : Blk W0 w.heap.size 35 #[.int .i64 p, .slice A l.length c] := by rw [hW0.out]; exact (Blk.new w _ _).alloc _
  have kR : Blk W0 (w.heap.size + 1) 57 #[.int .i64 0, .slice none 0 0] := by
    rw [hW0.out]
    have := Blk.new (w.alloc (.cells #[.int .i64 p, .slice A l.length c] 35)) 57 #[.int .i64 0, .slice none 0 0]
    rw [World.size_alloc] at this
    exact this
  go_enter Try.func18, Try.ntmps18
  go_wp2_with (first
    | (go_at_call 46; rw [← hW0.out]; refine (HCH.out _ hBB).mono ?_; rintro e w1 ⟨rfl, hB1⟩
       have kS1 := kS.below' hB1
       have kR1 := kR.below' hB1
       have c0 := kS1.cell 0 _ rfl
       have cl := kS1.lt
       have hB1' := hBB.trans (hB1.mono hBB.size)
       have hz1 : w.heap.size + 2 ≤ w1.heap.size := by have := kR1.lt; omega)
    | fail)
  go_loopw [6] (fun iv wr => ∃ (i : Nat) (v : Value), i ≤ l.length ∧ iv = .int .i64 i ∧ HSt w wr w1.heap.size (2 * p) p A l.length c v (hlL (l.take i))) (fun iv _ => l.length - (intOf iv).toNat)
  case atStart =>
    refine ⟨0, .slice none 0 0, Nat.zero_le _, rfl, ?_⟩
    have h1 := kS1.alloc (.cells #[.int .i64 (2 * p), .slice none 0 0] 57)
    have h2 := kR1.alloc (.cells #[.int .i64 (2 * p), .slice none 0 0] 57)
    exact ⟨hz1, Blk.new _ _ _, Tor.Own.nil _ _ _, h1, h2, hB1'.alloc hB1'.size _⟩
  case round =>
    obtain ⟨i, v, hi, rfl, hS⟩ := hrel
    obtain ⟨wo, rfl⟩ : ∃ wo : World, wo = wr := ⟨_, rfl⟩
    clear kS1 kR1 c0 cl kS kR
    have hz := hS.bl.size
    obtain ⟨Av, cv, rfl, _, _⟩ := Tor.Own.rd int_len hS.own
    have s0 := hS.s.cell 0 (.int .i64 p) rfl
    have s1 := hS.s.cell 1 (.slice A l.length c) rfl
    have sl := hS.s.lt
    have g0 := hS.h.cell 0 (.int .i64 (2 * p)) rfl
    have g1 := hS.h.cell 1 (.slice Av (hlL (l.take i)).length cv) rfl
    have gf := hS.h.frozen 1
    have gl := hS.h.lt
    by_cases hlt : i < l.length
    · obtain ⟨b, o, rfl, hb0, h0, h1, h2⟩ := (hr.below' hS.bl hH).tri hlt
      have hbb := lt_of_cell h0
      have j0 : (0 : Int) ≤ (i : Int) := by omega
      have j1 : (i : Int) < (l.length : Int) := by omega
      have hok := HW.out i hlt
      have hka := hok.k
      have hb1 := hok.b0
      have hb2 := hok.b1
      have hxe := hok.e
      have HLT := wordE_letters hok.w
      have HTK := Lib.hid (show hlL (l.take (i + 1)) = hlL (l.take i) ++ hlW l[i] from by rw [take_snoc l i hlt, hlL_app]; simp [hlL])
      have HDL : (hlL (l.take i)).length ≤ 3000 := by
        have := hlL_len (l.take i) (fun x hx => (by
          obtain ⟨k, hk, rfl⟩ := List.getElem_of_mem hx
          rw [List.getElem_take]
          exact (wordE_letters (HW.out k (by rw [List.length_take] at hk; omega)).w).1))
        rw [List.length_take] at this; omega
      clear hok
      generalize hx : l[i] = x at *
      obtain ⟨xa, xb, xs⟩ := x
      simp only at h0 h1 h2 hb1 hb2 HLT hka hxe
      clear hx
      have hs16 := HLT.1
      have HLL := Lib.hid HLT.2
      clear HLT
      obtain ⟨D0, hD0⟩ : ∃ D0, Hid (hlL (l.take i) = D0) := ⟨_, Lib.hid rfl⟩
      rw [hD0.out] at hS HDL HTK g1
      have e1 : IntKind.i64.wrap (2 * xb) = 2 * xb := IntWalk.i64_in _ (by omega)
      have e2 : IntKind.i64.wrap (1000 + 2 * xb) = 1000 + 2 * xb := IntWalk.i64_in _ (by omega)
      have e3 : IntKind.i64.wrap (1000 + 2 * xb + 2) = 2 * xb + 1002 := by rw [IntWalk.i64_in _ (by omega)]; omega
      have kW := Blk.new wo 54 #[.int .i64 xa, .int .i64 xb, .string xs]
      have hSa := hS.alloc (.cells #[.int .i64 xa, .int .i64 xb, .string xs] 54)
      have hwz : wo.heap.size ≠ w1.heap.size := by omega
      rcases hka with rfl | rfl
      · have z1 : ((1 : Int) == 2) = false := rfl
        have HTK2 := Lib.hid (show hlW ⟨1, xb, xs⟩ = xs.data.toList.flatMap (hlC (2 * xb)) from rfl)
        go_wp2_with fail
        go_loopw [8] (fun kv wr => ∃ (k : Nat) (v : Value), k ≤ xs.size ∧ kv = .int .i64 k ∧ HSt w wr w1.heap.size (2 * p) p (some ⟨b, o, none⟩) l.length c v (D0 ++ (xs.data.toList.take k).flatMap (hlC (2 * xb))) ∧ Blk wr wo.heap.size 54 #[.int .i64 1, .int .i64 xb, .string xs]) (fun kv _ => xs.size - (intOf kv).toNat)
        case atStart => exact ⟨0, _, Nat.zero_le _, rfl, by simpa using hSa, kW⟩
        case round =>
          obtain ⟨k, v, hk, rfl, hSk, kWk⟩ := hrel
          clear s0 s1 sl g0 g1 gf gl h0 h1 h2 hbb hSa kW
          obtain ⟨wk, rfl⟩ : ∃ wk : World, wk = wr := ⟨_, rfl⟩
          have hzk := hSk.bl.size
          obtain ⟨Av, cv, rfl, _, _⟩ := Tor.Own.rd int_len hSk.own
          have s0 := hSk.s.cell 0 (.int .i64 p) rfl
          have s1 := hSk.s.cell 1 (.slice (some ⟨b, o, none⟩) l.length c) rfl
          have sl := hSk.s.lt
          have g0 := hSk.h.cell 0 (.int .i64 (2 * p)) rfl
          have g1 := hSk.h.cell 1 (.slice Av (D0 ++ (xs.data.toList.take k).flatMap (hlC (2 * xb))).length cv) rfl
          have gf := hSk.h.frozen 1
          have gl := hSk.h.lt
          have m1 := kWk.cell 1 (.int .i64 xb) rfl
          have m2 := kWk.cell 2 (.string xs) rfl
          have ml := kWk.lt
          by_cases hkl : k < xs.size
          · have j2 : (0 : Int) ≤ (k : Int) := by omega
            have j3 : (k : Int) < (xs.size : Int) := by omega
            have ek : IntKind.i64.wrap ((k : Int) + 1) = (k : Int) + 1 := IntWalk.i64_in _ (by omega)
            have HTK3 := Lib.hid (show (xs.data.toList.take (k + 1)).flatMap (hlC (2 * xb)) = (xs.data.toList.take k).flatMap (hlC (2 * xb)) ++ hlC (2 * xb) xs[k] from by
              rw [take_snoc _ k (by rw [bsize]; exact hkl), List.flatMap_append, bgetL xs k hkl]; simp)
            have hcl : isLetter xs[k] = true := by
              have := List.all_eq_true.1 HLL.out _ (List.mem_of_getElem? (bget xs k hkl))
              exact this
            have HCR := Lib.hid (ccrossings3_one xs[k] hcl)
            have hsl := oneSl xs k hkl (by omega)  xs[k] rfl
            have hcs := cwL_small xs[k]
            have HDL1 : (D0 ++ (xs.data.toList.take k).flatMap (hlC (2 * xb))).length ≤ 4000 := by
              rw [List.length_append]
              have := flatC_len (2 * xb) (xs.data.toList.take k)
              rw [List.length_take] at this; omega
            obtain ⟨D1, hD1⟩ : ∃ D1, Hid (D0 ++ (xs.data.toList.take k).flatMap (hlC (2 * xb)) = D1) := ⟨_, Lib.hid rfl⟩
            rw [hD1.out] at hSk HDL1 g1
            clear hcl
            generalize hc : xs[k] = ch at *
            by_cases h80 : ch = 80
            · subst h80
              have hnil : cwL 0 80 = [] := by decide
              have hhl : hlC (2 * xb) 80 = [2 * xb + 1002] := by unfold hlC; rw [cwL_shf, hnil]; rfl
              rw [hnil] at HCR
              simp only [List.length_nil] at HCR
              go_wp2_with (first
                | (at_builtin; refine wpList_append_iat rfl (.tmp 60) (.tmp 66) _ rfl (w.heap.size + 2) _ i0 _ Try.underlying38 hi0 hz0' hz1' hz2' rfl (.slice Av D1.length cv) D1 rfl (hSk.own.alloc _) (wk.heap.size) (2 * xb + 1002) rfl (cell_new (by first | rfl | simp)) (by omega) (by simp; omega) ?_; intro v8 w8 hown8 hg8 hv8
                   obtain ⟨A8, c8, rfl, _, _⟩ := Tor.Own.rd int_len hown8
                   have q8 := Blk.grown (hSk.h.alloc _) hg8 (hSk.ne hSk.h (by decide))
                   have d0 := q8.cell 0 (.int .i64 (2 * p)) rfl
                   have d1 := q8.cell 1 (.slice Av D1.length cv) rfl
                   have df := q8.frozen 1
                   have dl := q8.lt
                   have kW8 := Blk.grown (kWk.alloc _) hg8 (hSk.ne kWk (by decide))
                   have m1 := kW8.cell 1 (.int .i64 xb) rfl
                   have m2 := kW8.cell 2 (.string xs) rfl
                   have ml := kW8.lt
                   have hS8 := (hSk.alloc _).push hg8 hown8
                   have kW8' := (hSk.alloc _).other hg8 (kWk.alloc _) (by decide) hwz (.slice A8 (D1 ++ [2 * xb + 1002]).length c8)
                   simp only [List.length_append, List.length_cons, List.length_nil, Nat.zero_add] at hS8 kW8')
                | (go_at_call 47; refine (HCR.out _).mono ?_; rintro e w3 ⟨A3, c3, rfl, ho3, hB3⟩
                   have hS9 := hS8.below hB3
                   have kW9 := kW8'.below' hB3)
                | fail)
              go_loopw [11] (fun jv wr => jv = .int .i64 0 ∧ Hid (wr = w3)) (fun _ _ => 0)
              case atStart => exact ⟨rfl, Lib.hid rfl⟩
              case round =>
                obtain ⟨rfl, hwr⟩ := hrel
                have hwr := hwr.out
                subst hwr
                go_wp2_with fail
                go_roundw
                case rel => exact ⟨k + 1, _, by omega, by go_num, by rw [HTK3.out, hhl, ← List.append_assoc, hD1.out]; exact hS9, kW9⟩
                case measure => simp [intOf]; omega
            · have z80 : ((ch.toNat : Int) == 80) = false := u8f h80
              have hhl : hlC (2 * xb) ch = (cwL 0 ch).map (shf (2 * xb)) := by unfold hlC; rw [if_neg h80, List.nil_append, cwL_shf]
              have HTK4 := Lib.hid (HTK3.out.trans (congrArg (fun q => (xs.data.toList.take k).flatMap (hlC (2 * xb)) ++ q) hhl))
              clear h80 hhl HTK3
              obtain ⟨hcs1, hcs2⟩ := hcs
              have HCS2 := Lib.hid hcs2
              clear hcs2
              generalize hLc : cwL 0 ch = L at *
              have HLC := Lib.hid hLc
              clear hLc
              go_wp2_with (first
                | (go_at_call 47; refine (HCR.out _).mono ?_; rintro e w3 ⟨A3, c3, rfl, ho3, hB3⟩
                   have hS9 := hSk.below hB3
                   have kW9 := kWk.below' hB3
                   have ha9 := apart_of hSk hB3 ho3
                   have r9 := ownRdI ho3)
                | fail)
              clear s0 s1 sl g0 g1 gf gl m1 m2 ml
              have hz9 := hB3.size
              go_loopw [11] (fun jv wr => ∃ (j : Nat) (v : Value), j ≤ L.length ∧ jv = .int .i64 j ∧ HSt w wr w1.heap.size (2 * p) p (some ⟨b, o, none⟩) l.length c v (D1 ++ (L.take j).map (shf (2 * xb))) ∧ Blk wr wo.heap.size 54 #[.int .i64 1, .int .i64 xb, .string xs] ∧ Apart wr w1.heap.size v A3 ∧ RdI wr w3.heap.size A3 L) (fun jv _ => L.length - (intOf jv).toNat)
              case atStart => exact ⟨0, _, Nat.zero_le _, rfl, by simpa using hS9, kW9, ha9, r9⟩
              case round =>
                obtain ⟨j, v, hj, rfl, hSj, kWj, haj, rj⟩ := hrel
                clear hS9 kW9 ha9 r9 ho3 hSk kWk
                obtain ⟨wj, rfl⟩ : ∃ wj : World, wj = wr := ⟨_, rfl⟩
                have hzj := hSj.bl.size
                have glj := hSj.h.lt
                have HDL2 : (D1 ++ (L.take j).map (shf (2 * xb))).length ≤ 5000 := by rw [List.length_append, List.length_map, List.length_take]; omega
                by_cases hjl : j < L.length
                · obtain ⟨bl, ol, rfl, hbl, m0⟩ := rj.int hjl
                  have l0 := lt_of_cell m0
                  have j4 : (0 : Int) ≤ (j : Int) := by omega
                  have j5 : (j : Int) < (L.length : Int) := by omega
                  have ej : IntKind.i64.wrap ((j : Int) + 1) = (j : Int) + 1 := IntWalk.i64_in _ (by omega)
                  have hyb := HCS2.out _ (List.getElem_mem hjl)
                  have HTK5 := Lib.hid (show (L.take (j + 1)).map (shf (2 * xb)) = (L.take j).map (shf (2 * xb)) ++ [shf (2 * xb) L[j]] from by rw [take_snoc L j hjl, List.map_append]; rfl)
                  obtain ⟨D2, hD2⟩ : ∃ D2, Hid (D1 ++ (L.take j).map (shf (2 * xb)) = D2) := ⟨_, Lib.hid rfl⟩
                  rw [hD2.out] at hSj HDL2
                  obtain ⟨Av, cv, rfl, _, _⟩ := Tor.Own.rd int_len hSj.own
                  generalize hy : L[j] = y at *
                  have HY := Lib.hid hy
                  clear hy
                  by_cases hy0 : 0 < y
                  · have HV := Lib.hid (show shf (2 * xb) y = 2 * xb + y from by unfold shf; rw [if_pos hy0])
                    have ev : IntKind.i64.wrap (2 * xb + y) = 2 * xb + y := IntWalk.i64_in _ (by omega)
                    go_wp2_with fail
                    refine wp_region_J (fun w' => w'.cell? ⟨bl, ol + j, none⟩ = some (.int .i64 y) ∧ w'.cell? ⟨wo.heap.size, 1, none⟩ = some (.int .i64 xb)) (fun w' => w'.cell? ⟨w1.heap.size, 1, none⟩ = some (.slice Av D2.length cv)) (fun i => i == 10 || i == 11) (by kernel_rfl) ?_
                    have hSd := hSj.below ((Below.refl _ _).drew)
                    have kWd := kWj.below' ((Below.refl _ _).drew)
                    have hS1 : wj.drew.cell? ⟨bl, ol + j, none⟩ = some (.int .i64 y) ∧ wj.drew.cell? ⟨wo.heap.size, 1, none⟩ = some (.int .i64 xb) := ⟨m0, kWd.cell 1 (.int .i64 xb) rfl⟩
                    have hS2 : wj.drew.cell? ⟨w1.heap.size, 1, none⟩ = some (.slice Av D2.length cv) := hSd.h.cell 1 (.slice Av D2.length cv) rfl
                    refine wpAnyJ_take1 0 rfl (by kernel_rfl) (by kernel_rfl) rfl (by kernel_rfl) (fun _ _ _ h => h) (by first | kernel_rfl | rfl) hS1 (fun w' hSw => (by obtain ⟨v0, v1⟩ := hSw; have ub := lt_of_cell v0; have uc := lt_of_cell v1; go_simp; try (with_reducible rfl))) ?_
                    try simp only [Act.put, List.getElem_toArray, List.getElem_cons_succ, List.getElem_cons_zero, List.setIfInBounds_toArray, List.set_cons_zero, List.set_cons_succ]
                    refine wpAnyJ_take1 2 rfl (by kernel_rfl) (by kernel_rfl) rfl (by kernel_rfl) (fun _ _ _ h => h) (by first | kernel_rfl | rfl) hS1 (fun w' hSw => (by obtain ⟨v0, v1⟩ := hSw; have ub := lt_of_cell v0; have uc := lt_of_cell v1; go_simp; try (with_reducible rfl))) ?_
                    try simp only [Act.put, List.getElem_toArray, List.getElem_cons_succ, List.getElem_cons_zero, List.setIfInBounds_toArray, List.set_cons_zero, List.set_cons_succ]
                    refine wpAnyJ_take1 3 rfl (by kernel_rfl) (by kernel_rfl) rfl (by kernel_rfl) (fun _ _ _ h => h) (by first | kernel_rfl | rfl) hS1 (fun w' hSw => (by obtain ⟨v0, v1⟩ := hSw; have ub := lt_of_cell v0; have uc := lt_of_cell v1; go_simp; try (with_reducible rfl))) ?_
                    try simp only [Act.put, List.getElem_toArray, List.getElem_cons_succ, List.getElem_cons_zero, List.setIfInBounds_toArray, List.set_cons_zero, List.set_cons_succ]
                    refine wpAnyJ_take1 4 rfl (by kernel_rfl) (by kernel_rfl) rfl (by kernel_rfl) (fun _ _ _ h => h) (by first | kernel_rfl | rfl) hS1 (fun w' hSw => (by obtain ⟨v0, v1⟩ := hSw; have ub := lt_of_cell v0; have uc := lt_of_cell v1; go_simp; try (with_reducible rfl))) ?_
                    try simp only [Act.put, List.getElem_toArray, List.getElem_cons_succ, List.getElem_cons_zero, List.setIfInBounds_toArray, List.set_cons_zero, List.set_cons_succ]
                    refine wpAnyJ_take1 5 rfl (by kernel_rfl) (by kernel_rfl) rfl (by kernel_rfl) (fun _ _ _ h => h) (by first | kernel_rfl | rfl) hS1 (fun w' hSw => (by obtain ⟨v0, v1⟩ := hSw; have ub := lt_of_cell v0; have uc := lt_of_cell v1; go_simp; try (with_reducible rfl))) ?_
                    try simp only [Act.put, List.getElem_toArray, List.getElem_cons_succ, List.getElem_cons_zero, List.setIfInBounds_toArray, List.set_cons_zero, List.set_cons_succ]
                    refine wpAnyJ_take1 6 rfl (by kernel_rfl) (by kernel_rfl) rfl (by kernel_rfl) (fun _ _ _ h => h) (by first | kernel_rfl | rfl) hS1 (fun w' hSw => (by obtain ⟨v0, v1⟩ := hSw; have ub := lt_of_cell v0; have uc := lt_of_cell v1; go_simp; try (with_reducible rfl))) ?_
                    try simp only [Act.put, List.getElem_toArray, List.getElem_cons_succ, List.getElem_cons_zero, List.setIfInBounds_toArray, List.set_cons_zero, List.set_cons_succ]
                    refine wpAnyJ_take1 7 rfl (by kernel_rfl) (by kernel_rfl) rfl (by kernel_rfl) (fun _ _ _ h => h) (by first | kernel_rfl | rfl) hS1 (fun w' hSw => (by obtain ⟨v0, v1⟩ := hSw; have ub := lt_of_cell v0; have uc := lt_of_cell v1; go_simp; try (with_reducible rfl))) ?_
                    try simp only [Act.put, List.getElem_toArray, List.getElem_cons_succ, List.getElem_cons_zero, List.setIfInBounds_toArray, List.set_cons_zero, List.set_cons_succ]
                    refine wpAnyJ_take1 8 rfl (by kernel_rfl) (by kernel_rfl) rfl (by kernel_rfl) (fun _ _ _ h => h) (by first | kernel_rfl | rfl) hS1 (fun w' hSw => (by obtain ⟨v0, v1⟩ := hSw; have ub := lt_of_cell v0; have uc := lt_of_cell v1; go_simp; try (with_reducible rfl))) ?_
                    try simp only [Act.put, List.getElem_toArray, List.getElem_cons_succ, List.getElem_cons_zero, List.setIfInBounds_toArray, List.set_cons_zero, List.set_cons_succ]
                    refine wpAnyJ_take1 9 rfl (by kernel_rfl) (by kernel_rfl) rfl (by kernel_rfl) (fun _ _ _ h => h) (by first | kernel_rfl | rfl) hS1 (fun w' hSw => (by obtain ⟨v0, v1⟩ := hSw; have ub := lt_of_cell v0; have uc := lt_of_cell v1; go_simp; try (with_reducible rfl))) ?_
                    try simp only [Act.put, List.getElem_toArray, List.getElem_cons_succ, List.getElem_cons_zero, List.setIfInBounds_toArray, List.set_cons_zero, List.set_cons_succ]
                    refine wpAnyJ_take2 1 rfl (by kernel_rfl) (by kernel_rfl) (by kernel_rfl) (by kernel_rfl) (fun _ _ _ h => h) (by first | kernel_rfl | rfl) hS1 hS2 (fun w' hSw => (by obtain ⟨_, v2⟩ := hSw; have ud := lt_of_cell v2; go_simp; try (with_reducible rfl))) ?_
                    try simp only [Act.put, List.getElem_toArray, List.getElem_cons_succ, List.getElem_cons_zero, List.setIfInBounds_toArray, List.set_cons_zero, List.set_cons_succ]
                    refine wpAnyJ_ready [10] (by kernel_rfl) (by simp) (NextJ.cons rfl (fun K hK => ?_) NextJ.nil)
                    go_simp
                    have hSe := hSd.alloc (.cells #[.int .i64 (2 * xb + y)] 3)
                    have kWe := kWd.alloc (.cells #[.int .i64 (2 * xb + y)] 3)
                    have hae : RdI (wj.drew.alloc (.cells #[.int .i64 (2 * xb + y)] 3)) w3.heap.size (some ⟨bl, ol, none⟩) L := Rd.keepA (rj) haj (((Below.refl _ _).drew).alloc (Nat.le_refl _) _)
                    have me : (wj.drew.alloc (.cells #[.int .i64 (2 * xb + y)] 3)).cell? ⟨bl, ol + j, none⟩ = some (.int .i64 y) := ((((Below.refl wj.heap.size wj).drew).alloc (Nat.le_refl _) _).cell (p := ⟨bl, _, none⟩) l0).trans m0
                    have hwj : wj.heap.size = wj.drew.heap.size := rfl
                    refine hK.out _ _ ⟨me, kWe.cell 1 (.int .i64 xb) rfl⟩ (fun _ => hSe.h.cell 1 (.slice Av D2.length cv) rfl) ?_
                    clear hK K
                    try simp only [Act.put, List.getElem_toArray, List.getElem_cons_succ, List.getElem_cons_zero, List.setIfInBounds_toArray, List.set_cons_zero, List.set_cons_succ]
                    refine wpAnyJ_ready [11] (by kernel_rfl) (by simp) (NextJ.cons rfl (fun K hK => ?_) NextJ.nil)
                    refine step_append_iat (by rfl) (.tmp 91) (.tmp 100) _ (by rfl) (w.heap.size + 2) _ i0 _ Try.underlying38 hi0 hz0' hz1' hz2' rfl (.slice Av D2.length cv) D2 (by rfl) hSe.own wj.heap.size (2 * xb + y) (by rfl) (World.cell?_alloc_new _ _ _ 0) (by omega) (by simp; omega) ?_
                    intro v8 w8 hown8 hg8 hv8
                    obtain ⟨A8, c8, rfl, _, _⟩ := Tor.Own.rd int_len hown8
                    have q8 := Blk.grown hSe.h hg8 (hSe.ne hSe.h (by decide))
                    have kW8 := Blk.grown kWe hg8 (hSe.ne kWe (by decide))
                    have hrg := Rd.grown (W := wj) (g := w1.heap.size) hae haj (by simp) hg8
                    have hS8 := hSe.push hg8 hown8
                    have kW8' := hSe.other hg8 kWe (by decide) hwz (.slice A8 (D2 ++ [2 * xb + y]).length c8)
                    have ha8 := haj.grown (wr := wj.drew.alloc (.cells #[.int .i64 (2 * xb + y)] 3)) (by simp) hg8 hv8 (.slice A8 (D2 ++ [2 * xb + y]).length c8)
                    have rr8 := Rd.setG (W := wj) hrg haj (.slice A8 (D2 ++ [2 * xb + y]).length c8)
                    generalize (D2 ++ [2 * xb + y]).length = n8 at *
                    obtain ⟨bx, ox, ex, _, mx⟩ := hrg.int hjl
                    injection ex with ex; injection ex with ex1 ex2 _; subst ex1 ex2
                    rw [HY.out] at mx
                    refine hK.out _ _ ⟨mx, kW8.cell 1 (.int .i64 xb) rfl⟩ (fun _ => q8.cell 1 (.slice Av D2.length cv) rfl) ?_
                    clear hK K
                    try simp only [Act.put, List.getElem_toArray, List.getElem_cons_succ, List.getElem_cons_zero, List.setIfInBounds_toArray, List.set_cons_zero, List.set_cons_succ]
                    have hS18 := And.intro mx (kW8.cell 1 (.int .i64 xb) rfl)
                    have hQ := Lib.hid (And.intro hS8 (And.intro kW8' (And.intro ha8 (And.intro rr8 q8))))
                    clear hv8 hg8 hown8 hae hSe kWe hSd kWd hrg me hwj hS8 kW8' ha8 rr8 hSj kWj haj rj mx kW8 q8 m0 hS1 hS2
                    refine wpAnyJ_take1 12 rfl (by kernel_rfl) (by kernel_rfl) rfl (by kernel_rfl) (fun _ _ _ h => h) (by first | kernel_rfl | rfl) hS18 (fun w' hSw => (by obtain ⟨v0, v1⟩ := hSw; have ub := lt_of_cell v0; have uc := lt_of_cell v1; go_simp; try (with_reducible rfl))) ?_
                    try simp only [Act.put, List.getElem_toArray, List.getElem_cons_succ, List.getElem_cons_zero, List.setIfInBounds_toArray, List.set_cons_zero, List.set_cons_succ]
                    clear hS18
                    refine wpAnyJ_ready [13] (by kernel_rfl) (by simp) (NextJ.cons rfl (fun K hK => ?_) NextJ.nil)
                    obtain ⟨hS8, kW8', ha8, rr8, q8⟩ := hQ.out
                    have d1 := q8.cell 1 (.slice Av D2.length cv) rfl
                    have df := q8.frozen 1
                    have dl := q8.lt
                    clear hS8 kW8' ha8 rr8 q8
                    go_simp
                    obtain ⟨hS8, kW8', ha8, rr8, q8⟩ := hQ.out
                    obtain ⟨by_, oy, ey, _, my⟩ := rr8.int hjl
                    injection ey with ey; injection ey with ey1 ey2 _; subst ey1 ey2
                    rw [HY.out] at my
                    refine hK.out _ _ ⟨my, kW8'.cell 1 (.int .i64 xb) rfl⟩ (fun h => absurd h (by decide)) ?_
                    clear hK K
                    try simp only [Act.put, List.getElem_toArray, List.getElem_cons_succ, List.getElem_cons_zero, List.setIfInBounds_toArray, List.set_cons_zero, List.set_cons_succ]
                    refine wpAnyJ_done (by kernel_rfl) ?_ _
                    clear d1 df dl my
                    go_wp2_with fail
                    go_roundw
                    case rel => exact ⟨j + 1, _, by omega, by go_num, by rw [HTK5.out, ← List.append_assoc, hD2.out, HV.out]; exact hS8, kW8', ha8, rr8⟩
                    case measure => simp [intOf]; omega
                  · have HV := Lib.hid (show shf (2 * xb) y = y - 2 * xb from by unfold shf; rw [if_neg hy0])
                    have ev : IntKind.i64.wrap (y - 2 * xb) = y - 2 * xb := IntWalk.i64_in _ (by omega)
                    go_wp2_with fail
                    refine wp_region_J (fun w' => w'.cell? ⟨bl, ol + j, none⟩ = some (.int .i64 y) ∧ w'.cell? ⟨wo.heap.size, 1, none⟩ = some (.int .i64 xb)) (fun w' => w'.cell? ⟨w1.heap.size, 1, none⟩ = some (.slice Av D2.length cv)) (fun i => i == 10 || i == 11) (by kernel_rfl) ?_
                    have hSd := hSj.below ((Below.refl _ _).drew)
                    have kWd := kWj.below' ((Below.refl _ _).drew)
                    have hS1 : wj.drew.cell? ⟨bl, ol + j, none⟩ = some (.int .i64 y) ∧ wj.drew.cell? ⟨wo.heap.size, 1, none⟩ = some (.int .i64 xb) := ⟨m0, kWd.cell 1 (.int .i64 xb) rfl⟩
                    have hS2 : wj.drew.cell? ⟨w1.heap.size, 1, none⟩ = some (.slice Av D2.length cv) := hSd.h.cell 1 (.slice Av D2.length cv) rfl
                    refine wpAnyJ_take1 0 rfl (by kernel_rfl) (by kernel_rfl) rfl (by kernel_rfl) (fun _ _ _ h => h) (by first | kernel_rfl | rfl) hS1 (fun w' hSw => (by obtain ⟨v0, v1⟩ := hSw; have ub := lt_of_cell v0; have uc := lt_of_cell v1; go_simp; try (with_reducible rfl))) ?_
                    try simp only [Act.put, List.getElem_toArray, List.getElem_cons_succ, List.getElem_cons_zero, List.setIfInBounds_toArray, List.set_cons_zero, List.set_cons_succ]
                    refine wpAnyJ_take1 2 rfl (by kernel_rfl) (by kernel_rfl) rfl (by kernel_rfl) (fun _ _ _ h => h) (by first | kernel_rfl | rfl) hS1 (fun w' hSw => (by obtain ⟨v0, v1⟩ := hSw; have ub := lt_of_cell v0; have uc := lt_of_cell v1; go_simp; try (with_reducible rfl))) ?_
                    try simp only [Act.put, List.getElem_toArray, List.getElem_cons_succ, List.getElem_cons_zero, List.setIfInBounds_toArray, List.set_cons_zero, List.set_cons_succ]
                    refine wpAnyJ_take1 3 rfl (by kernel_rfl) (by kernel_rfl) rfl (by kernel_rfl) (fun _ _ _ h => h) (by first | kernel_rfl | rfl) hS1 (fun w' hSw => (by obtain ⟨v0, v1⟩ := hSw; have ub := lt_of_cell v0; have uc := lt_of_cell v1; go_simp; try (with_reducible rfl))) ?_
                    try simp only [Act.put, List.getElem_toArray, List.getElem_cons_succ, List.getElem_cons_zero, List.setIfInBounds_toArray, List.set_cons_zero, List.set_cons_succ]
                    refine wpAnyJ_take1 4 rfl (by kernel_rfl) (by kernel_rfl) rfl (by kernel_rfl) (fun _ _ _ h => h) (by first | kernel_rfl | rfl) hS1 (fun w' hSw => (by obtain ⟨v0, v1⟩ := hSw; have ub := lt_of_cell v0; have uc := lt_of_cell v1; go_simp; try (with_reducible rfl))) ?_
                    try simp only [Act.put, List.getElem_toArray, List.getElem_cons_succ, List.getElem_cons_zero, List.setIfInBounds_toArray, List.set_cons_zero, List.set_cons_succ]
                    refine wpAnyJ_take1 5 rfl (by kernel_rfl) (by kernel_rfl) rfl (by kernel_rfl) (fun _ _ _ h => h) (by first | kernel_rfl | rfl) hS1 (fun w' hSw => (by obtain ⟨v0, v1⟩ := hSw; have ub := lt_of_cell v0; have uc := lt_of_cell v1; go_simp; try (with_reducible rfl))) ?_
                    try simp only [Act.put, List.getElem_toArray, List.getElem_cons_succ, List.getElem_cons_zero, List.setIfInBounds_toArray, List.set_cons_zero, List.set_cons_succ]
                    refine wpAnyJ_take1 6 rfl (by kernel_rfl) (by kernel_rfl) rfl (by kernel_rfl) (fun _ _ _ h => h) (by first | kernel_rfl | rfl) hS1 (fun w' hSw => (by obtain ⟨v0, v1⟩ := hSw; have ub := lt_of_cell v0; have uc := lt_of_cell v1; go_simp; try (with_reducible rfl))) ?_
                    try simp only [Act.put, List.getElem_toArray, List.getElem_cons_succ, List.getElem_cons_zero, List.setIfInBounds_toArray, List.set_cons_zero, List.set_cons_succ]
                    refine wpAnyJ_take1 7 rfl (by kernel_rfl) (by kernel_rfl) rfl (by kernel_rfl) (fun _ _ _ h => h) (by first | kernel_rfl | rfl) hS1 (fun w' hSw => (by obtain ⟨v0, v1⟩ := hSw; have ub := lt_of_cell v0; have uc := lt_of_cell v1; go_simp; try (with_reducible rfl))) ?_
                    try simp only [Act.put, List.getElem_toArray, List.getElem_cons_succ, List.getElem_cons_zero, List.setIfInBounds_toArray, List.set_cons_zero, List.set_cons_succ]
                    refine wpAnyJ_take1 8 rfl (by kernel_rfl) (by kernel_rfl) rfl (by kernel_rfl) (fun _ _ _ h => h) (by first | kernel_rfl | rfl) hS1 (fun w' hSw => (by obtain ⟨v0, v1⟩ := hSw; have ub := lt_of_cell v0; have uc := lt_of_cell v1; go_simp; try (with_reducible rfl))) ?_
                    try simp only [Act.put, List.getElem_toArray, List.getElem_cons_succ, List.getElem_cons_zero, List.setIfInBounds_toArray, List.set_cons_zero, List.set_cons_succ]
                    refine wpAnyJ_take1 9 rfl (by kernel_rfl) (by kernel_rfl) rfl (by kernel_rfl) (fun _ _ _ h => h) (by first | kernel_rfl | rfl) hS1 (fun w' hSw => (by obtain ⟨v0, v1⟩ := hSw; have ub := lt_of_cell v0; have uc := lt_of_cell v1; go_simp; try (with_reducible rfl))) ?_
                    try simp only [Act.put, List.getElem_toArray, List.getElem_cons_succ, List.getElem_cons_zero, List.setIfInBounds_toArray, List.set_cons_zero, List.set_cons_succ]
                    refine wpAnyJ_take2 1 rfl (by kernel_rfl) (by kernel_rfl) (by kernel_rfl) (by kernel_rfl) (fun _ _ _ h => h) (by first | kernel_rfl | rfl) hS1 hS2 (fun w' hSw => (by obtain ⟨_, v2⟩ := hSw; have ud := lt_of_cell v2; go_simp; try (with_reducible rfl))) ?_
                    try simp only [Act.put, List.getElem_toArray, List.getElem_cons_succ, List.getElem_cons_zero, List.setIfInBounds_toArray, List.set_cons_zero, List.set_cons_succ]
                    refine wpAnyJ_ready [10] (by kernel_rfl) (by simp) (NextJ.cons rfl (fun K hK => ?_) NextJ.nil)
                    go_simp
                    have hSe := hSd.alloc (.cells #[.int .i64 (y - 2 * xb)] 3)
                    have kWe := kWd.alloc (.cells #[.int .i64 (y - 2 * xb)] 3)
                    have hae : RdI (wj.drew.alloc (.cells #[.int .i64 (y - 2 * xb)] 3)) w3.heap.size (some ⟨bl, ol, none⟩) L := Rd.keepA (rj) haj (((Below.refl _ _).drew).alloc (Nat.le_refl _) _)
                    have me : (wj.drew.alloc (.cells #[.int .i64 (y - 2 * xb)] 3)).cell? ⟨bl, ol + j, none⟩ = some (.int .i64 y) := ((((Below.refl wj.heap.size wj).drew).alloc (Nat.le_refl _) _).cell (p := ⟨bl, _, none⟩) l0).trans m0
                    have hwj : wj.heap.size = wj.drew.heap.size := rfl
                    refine hK.out _ _ ⟨me, kWe.cell 1 (.int .i64 xb) rfl⟩ (fun _ => hSe.h.cell 1 (.slice Av D2.length cv) rfl) ?_
                    clear hK K
                    try simp only [Act.put, List.getElem_toArray, List.getElem_cons_succ, List.getElem_cons_zero, List.setIfInBounds_toArray, List.set_cons_zero, List.set_cons_succ]
                    refine wpAnyJ_ready [11] (by kernel_rfl) (by simp) (NextJ.cons rfl (fun K hK => ?_) NextJ.nil)
                    refine step_append_iat (by rfl) (.tmp 104) (.tmp 113) _ (by rfl) (w.heap.size + 2) _ i0 _ Try.underlying38 hi0 hz0' hz1' hz2' rfl (.slice Av D2.length cv) D2 (by rfl) hSe.own wj.heap.size (y - 2 * xb) (by rfl) (World.cell?_alloc_new _ _ _ 0) (by omega) (by simp; omega) ?_
                    intro v8 w8 hown8 hg8 hv8
                    obtain ⟨A8, c8, rfl, _, _⟩ := Tor.Own.rd int_len hown8
                    have q8 := Blk.grown hSe.h hg8 (hSe.ne hSe.h (by decide))
                    have kW8 := Blk.grown kWe hg8 (hSe.ne kWe (by decide))
                    have hrg := Rd.grown (W := wj) (g := w1.heap.size) hae haj (by simp) hg8
                    have hS8 := hSe.push hg8 hown8
                    have kW8' := hSe.other hg8 kWe (by decide) hwz (.slice A8 (D2 ++ [y - 2 * xb]).length c8)
                    have ha8 := haj.grown (wr := wj.drew.alloc (.cells #[.int .i64 (y - 2 * xb)] 3)) (by simp) hg8 hv8 (.slice A8 (D2 ++ [y - 2 * xb]).length c8)
                    have rr8 := Rd.setG (W := wj) hrg haj (.slice A8 (D2 ++ [y - 2 * xb]).length c8)
                    generalize (D2 ++ [y - 2 * xb]).length = n8 at *
                    obtain ⟨bx, ox, ex, _, mx⟩ := hrg.int hjl
                    injection ex with ex; injection ex with ex1 ex2 _; subst ex1 ex2
                    rw [HY.out] at mx
                    refine hK.out _ _ ⟨mx, kW8.cell 1 (.int .i64 xb) rfl⟩ (fun _ => q8.cell 1 (.slice Av D2.length cv) rfl) ?_
                    clear hK K
                    try simp only [Act.put, List.getElem_toArray, List.getElem_cons_succ, List.getElem_cons_zero, List.setIfInBounds_toArray, List.set_cons_zero, List.set_cons_succ]
                    have hS18 := And.intro mx (kW8.cell 1 (.int .i64 xb) rfl)
                    have hQ := Lib.hid (And.intro hS8 (And.intro kW8' (And.intro ha8 (And.intro rr8 q8))))
                    clear hv8 hg8 hown8 hae hSe kWe hSd kWd hrg me hwj hS8 kW8' ha8 rr8 hSj kWj haj rj mx kW8 q8 m0 hS1 hS2
                    refine wpAnyJ_take1 12 rfl (by kernel_rfl) (by kernel_rfl) rfl (by kernel_rfl) (fun _ _ _ h => h) (by first | kernel_rfl | rfl) hS18 (fun w' hSw => (by obtain ⟨v0, v1⟩ := hSw; have ub := lt_of_cell v0; have uc := lt_of_cell v1; go_simp; try (with_reducible rfl))) ?_
                    try simp only [Act.put, List.getElem_toArray, List.getElem_cons_succ, List.getElem_cons_zero, List.setIfInBounds_toArray, List.set_cons_zero, List.set_cons_succ]
                    clear hS18
                    refine wpAnyJ_ready [13] (by kernel_rfl) (by simp) (NextJ.cons rfl (fun K hK => ?_) NextJ.nil)
                    obtain ⟨hS8, kW8', ha8, rr8, q8⟩ := hQ.out
                    have d1 := q8.cell 1 (.slice Av D2.length cv) rfl
                    have df := q8.frozen 1
                    have dl := q8.lt
                    clear hS8 kW8' ha8 rr8 q8
                    go_simp
                    obtain ⟨hS8, kW8', ha8, rr8, q8⟩ := hQ.out
                    obtain ⟨by_, oy, ey, _, my⟩ := rr8.int hjl
                    injection ey with ey; injection ey with ey1 ey2 _; subst ey1 ey2
                    rw [HY.out] at my
                    refine hK.out _ _ ⟨my, kW8'.cell 1 (.int .i64 xb) rfl⟩ (fun h => absurd h (by decide)) ?_
                    clear hK K
                    try simp only [Act.put, List.getElem_toArray, List.getElem_cons_succ, List.getElem_cons_zero, List.setIfInBounds_toArray, List.set_cons_zero, List.set_cons_succ]
                    refine wpAnyJ_done (by kernel_rfl) ?_ _
                    clear d1 df dl my
                    go_wp2_with fail
                    go_roundw
                    case rel => exact ⟨j + 1, _, by omega, by go_num, by rw [HTK5.out, ← List.append_assoc, hD2.out, HV.out]; exact hS8, kW8', ha8, rr8⟩
                    case measure => simp [intOf]; omega
                · have j5 : ¬ (j : Int) < (L.length : Int) := by omega
                  have ej : j = L.length := by omega
                  have hSj2 := hSj
                  rw [ej, List.take_length] at hSj2
                  clear ej
                  go_wp2_with fail
                  go_roundw
                  case rel => exact ⟨k + 1, _, by omega, by go_num, by rw [HTK4.out, ← List.append_assoc, hD1.out]; exact hSj2, kWj⟩
                  case measure => simp [intOf]; omega
          · have j3 : ¬ (k : Int) < (xs.size : Int) := by omega
            have ek : k = xs.size := by omega
            have hSk2 := hSk
            rw [ek, List.take_of_length_le (by rw [bsize]; omega)] at hSk2
            clear ek
            have ei : IntKind.i64.wrap ((i : Int) + 1) = (i : Int) + 1 := IntWalk.i64_in _ (by omega)
            go_wp2_with fail
            go_roundw
            case rel => exact ⟨i + 1, _, by omega, by go_num, by rw [HTK.out, HTK2.out]; exact hSk2⟩
            case measure => simp [intOf]; omega
      · have z1 : ((2 : Int) == 2) = true := rfl
        have hx0 := hxe rfl
        have hxl : xs.data.toList = [] := List.eq_nil_of_length_eq_zero (by rw [bsize]; exact hx0)
        have HTK2 := Lib.hid (show hlW ⟨2, xb, xs⟩ = [2 * xb + 1002] from by unfold hlW; simp [hxl])
        clear hxl hxe
        have hx1 : ¬ (0 : Int) < (xs.size : Int) := by omega
        have HX0 := Lib.hid hx0
        clear hx0
        go_wp2_with (first
          | (at_builtin; refine wpList_append_iat rfl (.tmp 38) (.tmp 44) _ rfl (w.heap.size + 2) _ i0 _ Try.underlying38 hi0 hz0' hz1' hz2' rfl (.slice Av D0.length cv) D0 rfl (hSa.own.alloc _) (wo.heap.size + 1) (2 * xb + 1002) rfl (cell_new (by first | rfl | simp)) (by omega) (by simp; omega) ?_; intro v8 w8 hown8 hg8 hv8
             obtain ⟨A8, c8, rfl, _, _⟩ := Tor.Own.rd int_len hown8
             have q8 := Blk.grown (hSa.h.alloc _) hg8 (hSa.ne hSa.h (by decide))
             have d0 := q8.cell 0 (.int .i64 (2 * p)) rfl
             have d1 := q8.cell 1 (.slice Av D0.length cv) rfl
             have df := q8.frozen 1
             have dl := q8.lt
             have kW8 := Blk.grown (kW.alloc _) hg8 (hSa.ne kW (by decide))
             have m1 := kW8.cell 1 (.int .i64 xb) rfl
             have m2 := kW8.cell 2 (.string xs) rfl
             have ml := kW8.lt
             have hS8 := (hSa.alloc _).push hg8 hown8
             have kW8' := (hSa.alloc _).other hg8 (kW.alloc _) (by decide) hwz (.slice A8 (D0 ++ [2 * xb + 1002]).length c8)
             simp only [List.length_append, List.length_cons, List.length_nil, Nat.zero_add] at hS8 kW8')
          | fail)
        go_loopw [8] (fun kv wr => kv = .int .i64 0 ∧ HSt w wr w1.heap.size (2 * p) p (some ⟨b, o, none⟩) l.length c (.slice A8 (D0.length + 1) c8) (D0 ++ [2 * xb + 1002]) ∧ Blk wr wo.heap.size 54 #[.int .i64 2, .int .i64 xb, .string xs]) (fun _ _ => 0)
        case atStart => exact ⟨rfl, hS8, kW8'⟩
        case round =>
          obtain ⟨rfl, hSk, kWk⟩ := hrel
          clear s0 s1 sl g0 g1 gf gl h0 h1 h2 hbb hSa kW hS8 kW8' d0 d1 df dl q8 kW8 m1 m2 ml
          have m2 := kWk.cell 2 (.string xs) rfl
          have ml := kWk.lt
          have ei : IntKind.i64.wrap ((i : Int) + 1) = (i : Int) + 1 := IntWalk.i64_in _ (by omega)
          go_wp2_with fail
          go_roundw
          case rel => exact ⟨i + 1, _, by omega, by go_num, by rw [HTK.out, HTK2.out]; exact hSk⟩
          case measure => simp [intOf]; omega
    · have j1 : ¬ (i : Int) < (l.length : Int) := by omega
      have ei : i = l.length := by omega
      have hS2 := hS
      rw [ei, List.take_length] at hS2 g1
      clear ei hS
      have hln : ¬ (2000 : Int) < ((hlL l).length : Int) := by have := HLEN.out; omega
      have r0 := hS2.r.cell 0 (.int .i64 0) rfl
      have r1 := hS2.r.cell 1 (.slice none 0 0) rfl
      have rf0 := hS2.r.frozen 0
      have rf1 := hS2.r.frozen 1
      have rl := hS2.r.lt
      go_wp2_with fail
      (try simp only [Exit.inBlock, Exit.then])
      refine cell_ret2 (x := .int .i64 (2 * p)) (y := .slice Av (hlL l).length cv) rfl rfl rfl (by simpa using (hS2.r.set_ 0 (.int .i64 (2 * p))).set_ 1 (.slice Av (hlL l).length cv)) rfl ?_
      refine ⟨_, rfl, ?_, ?_⟩
      · exact ownsRow_setCell_other (ownsRow_setCell_other (hS2.own.base (by omega)) (hS2.own.ne_block hS2.r (by decide)).symm _) (hS2.own.ne_block hS2.r (by decide)).symm _
      · exact (hS2.bl.setCell (p := ⟨w.heap.size + 1, 0, none⟩) (by show w.heap.size ≤ w.heap.size + 1; omega) _).setCell (p := ⟨w.heap.size + 1, 1, none⟩) (by show w.heap.size ≤ w.heap.size + 1; omega) _
end Go.Proofs.Ytfnklchhhojimaa
