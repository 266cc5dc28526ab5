/- Merged: Looks Looks2 Letters RLetters. -/
import Derived.Test.YtoccplfnjammjaaGreatDoorDCut
import Derived.Maps.OwnSet
import Derived.StringKeys
set_option linter.unusedSimpArgs false
set_option linter.unusedVariables false
namespace Go.Proofs.YtoccplfnjammjaaGreatDoor
open Go Go.RowKit Tor Go.Maps

theorem sewB_bN : (⟨#[115, 101, 119]⟩ : ByteArray) = bN sewB := rfl
theorem dashB_bN : (⟨#[45]⟩ : ByteArray) = bN dashB := rfl
theorem look_any (x : Tri) (w : World) : Calls Tryz.prog 52 #[.agg #[.int .i64 x.a, .int .i64 x.b, .string x.s]] w (Ret (.string (bN (lookB x))) w) := by
  have hB : Below w.heap.size w (w.alloc (.cells #[.int .i64 x.a, .int .i64 x.b, .string x.s] 44)) := (Below.refl _ _).alloc (Nat.le_refl _) _
  by_cases h1 : x.a = 2
  · have e1 : (x.a == 2) = true := by simp [h1]
    have H1 := Lib.hid h1
    clear h1
    go_enter Tryz.func52, Tryz.ntmps52
    go_wp2_with fail
    go_ret
    exact Ret.val (by rw [sewB_bN]; unfold lookB; rw [if_pos H1.out]; rfl) hB
  · have e1 : (x.a == 2) = false := by simp [h1]
    have H1 := Lib.hid h1
    clear h1
    by_cases h : x.s.size = 0
    · have h' : x.s.toList.isEmpty = true := by rw [bempt]; simp [h]
      have H := Lib.hid h
      clear h
      go_enter Tryz.func52, Tryz.ntmps52
      go_wp2_with fail
      go_ret
      exact Ret.val (by rw [dashB_bN]; unfold lookB; rw [if_neg H1.out, if_pos H.out]; rfl) hB
    · have h' : ¬ x.s = ByteArray.empty := fun e => h (by rw [e]; rfl)
      have h3 : x.s.toList.isEmpty = false := by rw [bempt]; simp [h]
      have H := Lib.hid h
      clear h
      go_enter Tryz.func52, Tryz.ntmps52
      go_wp2_with fail
      go_ret
      refine Ret.val ?_ hB
      unfold lookB
      rw [if_neg H1.out, if_neg H.out, ← bN_of]; rfl
theorem rlook_any (x : Tri) (w : World) : Calls Tryz.prog 65 #[.agg #[.int .i64 x.a, .int .i64 x.b, .string x.s]] w (Ret (.string (bN (lookB x))) w) := by
  have hB : Below w.heap.size w (w.alloc (.cells #[.int .i64 x.a, .int .i64 x.b, .string x.s] 44)) := (Below.refl _ _).alloc (Nat.le_refl _) _
  by_cases h1 : x.a = 2
  · have e1 : (x.a == 2) = true := by simp [h1]
    have H1 := Lib.hid h1
    clear h1
    go_enter Tryz.func65, Tryz.ntmps65
    go_wp2_with fail
    go_ret
    exact Ret.val (by rw [sewB_bN]; unfold lookB; rw [if_pos H1.out]; rfl) hB
  · have e1 : (x.a == 2) = false := by simp [h1]
    have H1 := Lib.hid h1
    clear h1
    by_cases h : x.s.size = 0
    · have h' : x.s.toList.isEmpty = true := by rw [bempt]; simp [h]
      have H := Lib.hid h
      clear h
      go_enter Tryz.func65, Tryz.ntmps65
      go_wp2_with fail
      go_ret
      exact Ret.val (by rw [dashB_bN]; unfold lookB; rw [if_neg H1.out, if_pos H.out]; rfl) hB
    · have h' : ¬ x.s = ByteArray.empty := fun e => h (by rw [e]; rfl)
      have h3 : x.s.toList.isEmpty = false := by rw [bempt]; simp [h]
      have H := Lib.hid h
      clear h
      go_enter Tryz.func65, Tryz.ntmps65
      go_wp2_with fail
      go_ret
      refine Ret.val ?_ hB
      unfold lookB
      rw [if_neg H1.out, if_neg H.out, ← bN_of]; rfl
/-- what the map knows: the letters of the looks -/
def KnownL (L : List (List UInt8)) (D : DataW Unit) : Prop := ∀ x : List UInt8, Maps.has D (.string x) = hasB L x ∧ (hasB L x = true → D.atKey (.string x) (.lit (.int .u8 0)) = .lit (.int .u8 ((letN (idxB L x)).toNat : Int)))
theorem KnownL.empty : KnownL [] (.map []) := fun x => ⟨rfl, fun h => absurd h (by simp [hasB])⟩
theorem hasB_snoc (L : List (List UInt8)) (x y : List UInt8) : hasB (L ++ [x]) y = (hasB L y || decide (x = y)) := by unfold hasB; simp
theorem idxB_lt {L : List (List UInt8)} {x : List UInt8} (h : hasB L x = true) : idxB L x < L.length := by
  unfold hasB at h
  unfold idxB
  exact List.findIdx_lt_length.2 (by obtain ⟨y, hy, hp⟩ := List.any_eq_true.1 h; exact ⟨y, hy, hp⟩)
theorem idxB_old {L : List (List UInt8)} {x y : List UInt8} (h : hasB L y = true) : idxB (L ++ [x]) y = idxB L y := by
  have := idxB_lt h
  unfold idxB at this ⊢
  rw [List.findIdx_append, if_pos this]
theorem idxB_new {L : List (List UInt8)} {x : List UInt8} (h : hasB L x = false) : idxB (L ++ [x]) x = L.length := by
  unfold hasB at h
  unfold idxB
  have h2 : L.findIdx (fun y => decide (y = x)) = L.length := List.findIdx_eq_length.2 (fun y hy => by have := List.any_eq_false.1 h y hy; simpa using this)
  rw [List.findIdx_append, if_neg (by omega)]
  simp
theorem strKey_is (x : List UInt8) : WideAt.IsKeyLit (.string x) := trivial
theorem KnownL.put {L : List (List UInt8)} {D : DataW Unit} (h : KnownL L D) (hD : Maps.IsMap D) {x : List UInt8} (hx : hasB L x = false) : KnownL (L ++ [x]) (D.put (.string x) (.lit (.int .u8 ((letN L.length).toNat : Int)))) := fun y => by
  by_cases e : y = x
  · subst e
    rw [Maps.has_put_same hD (strKey_is _), hasB_snoc, hx, Maps.atKey_put_same hD (strKey_is _), idxB_new hx]
    simp
  · have hne : (Lit.string y) ≠ Lit.string x := fun e' => e (by injection e')
    rw [Maps.has_put_other hne, Maps.atKey_put_other hne, hasB_snoc]
    have : decide (x = y) = false := decide_eq_false (fun e' => e e'.symm)
    rw [this, Bool.or_false]
    exact ⟨(h y).1, fun h2 => by rw [idxB_old h2]; exact (h y).2 h2⟩
def MapL (L : List (List UInt8)) (w : World) (mb n : Nat) : Prop := ∃ D : DataW Unit, w.ownsMap Tryz.prog 9 (plainElem Tryz.prog 5) mb n D ∧ KnownL L D
theorem MapL.mono {L : List (List UInt8)} {w : World} {mb n n' : Nat} (h : MapL L w mb n) (hn : n ≤ n') : MapL L w mb n' := by obtain ⟨D, h1, h2⟩ := h; exact ⟨D, h1.mono hn, h2⟩
theorem MapL.below {L : List (List UInt8)} {w w' : World} {mb n : Nat} (h : MapL L w mb n) (hB : Below w.heap.size w w') : MapL L w' mb n := by
  obtain ⟨D, h1, h2⟩ := h
  obtain ⟨es, clock, hb, r⟩ := h1
  have hlt : mb < w.heap.size := (Array.getElem?_eq_some_iff.1 hb).1
  exact ⟨D, ⟨es, clock, (hB.block mb hlt).trans hb, r⟩, h2⟩
theorem MapL.isMap {L : List (List UInt8)} {w : World} {mb n : Nat} (h : MapL L w mb n) : ∃ es clock, w.heap[mb]? = some (.map es clock) := by
  obtain ⟨D, ⟨es, clock, hb, r⟩, h2⟩ := h
  exact ⟨es, clock, hb⟩
theorem MapL.lt {L : List (List UInt8)} {w : World} {mb n : Nat} (h : MapL L w mb n) : mb < w.heap.size := by
  obtain ⟨es, clock, hb⟩ := h.isMap
  exact (Array.getElem?_eq_some_iff.1 hb).1
theorem MapL.kept {L : List (List UInt8)} {w w' : World} {mb n : Nat} (h : MapL L w mb n) (e : w'.heap[mb]? = w.heap[mb]?) : MapL L w' mb n := by
  obtain ⟨D, ⟨es, clock, hb, r⟩, h2⟩ := h
  exact ⟨D, ⟨es, clock, e.trans hb, r⟩, h2⟩
theorem zeroByte (w : World) : (zeroValue 5).run Tryz.prog w = .ok (.int .u8 0) w := by kernel_rfl
theorem wf_byte (b : UInt8) : (Lit.int .u8 (b.toNat : Int)).wf = true := by
  have := b.toNat_lt
  exact WalkArith.wf_u8 (by omega)
theorem keyed_str : Keyed Tryz.prog 9 := string_keyed Tryz.underlying9
theorem key_str (x : List UInt8) (hx : x.length ≤ maxLen) : keyOf Tryz.prog 9 (.string (bN x)) = some (.string x) := by
  have := Go.WideMaps.keyOf_string_mk (P := Tryz.prog) (k := 9) Tryz.underlying9 (s := bN x) (by rw [bN_size]; exact hx)
  exact this
theorem MapL.look {L : List (List UInt8)} {w : World} {mb n : Nat} (h : MapL L w mb n) (x : List UInt8) (hx : x.length ≤ maxLen) :
    ∃ c : Int, (hasB L x = true → c = ((letN (idxB L x)).toNat : Int)) ∧ (Instr.lookup 81 (.map (some mb)) (.string (bN x)) true).run Tryz.prog w = .ok (.tuple #[.int .u8 c, .bool (hasB L x)]) w := by
  obtain ⟨D, h1, h2⟩ := h
  obtain ⟨v, ps, hr, hv⟩ := h1.look_ok keyed_str Tryz.underlying81 (zeroByte _) (plainElem_int Tryz.underlying5 (a := 0) (by decide)) (key_str x hx)
  obtain ⟨c, rfl, hc, _⟩ := plainElem_int_inv Tryz.underlying5 hv
  rw [(h2 x).1] at hr
  refine ⟨c, fun hh => ?_, hr⟩
  have h3 := (h2 x).2 hh
  have h4 := congrArg Prod.fst hc
  simp only at h4
  rw [h3] at h4
  simpa using h4.symm
/-- a new look -/
theorem MapL.add {L : List (List UInt8)} {w : World} {mb n : Nat} (h : MapL L w mb n) (x : List UInt8) (hx : x.length ≤ maxLen) (hn : hasB L x = false) (hn2 : n < maxLen) :
    ∃ w', (Instr.mapUpdate 81 (.map (some mb)) (.string (bN x)) (.int .u8 ((letN L.length).toNat : Int))).run Tryz.prog w = .ok () w' ∧ MapL (L ++ [x]) w' mb (n + 1) ∧ w.grownBy w' (some mb) := by
  obtain ⟨D, h1, h2⟩ := h
  obtain ⟨w', hrun, r1, r2⟩ := h1.update keyed_str Tryz.underlying81 hn2 (key_str x hx) (plainElem_int Tryz.underlying5 (wf_byte (letN L.length)))
  exact ⟨w', hrun, ⟨_, r1, h2.put (World.ownsMap.isMap h1) hn⟩, r2⟩
/-- the letters, as they lie in the code -/
theorem letters_bN : (bN lettersL) = (⟨#[65, 66, 67, 68, 69, 70, 71, 72, 73, 74, 75, 76, 77, 78, 79, 80, 81, 82, 83, 84, 85, 86, 87, 88, 89, 90, 97, 98, 99, 100, 101, 102, 103, 104, 105, 106, 107, 108, 109, 110, 111, 112, 113, 114, 115, 116, 117, 118, 119, 120, 121, 122]⟩ : ByteArray) := rfl
theorem letter_run (n : Nat) (hn : n < 52) (W : World) : (Instr.index 9 (.string (⟨#[65, 66, 67, 68, 69, 70, 71, 72, 73, 74, 75, 76, 77, 78, 79, 80, 81, 82, 83, 84, 85, 86, 87, 88, 89, 90, 97, 98, 99, 100, 101, 102, 103, 104, 105, 106, 107, 108, 109, 110, 111, 112, 113, 114, 115, 116, 117, 118, 119, 120, 121, 122]⟩ : ByteArray)) (.int .i64 (n : Int))).run Tryz.prog W = .ok (.int .u8 ((letN n).toNat : Int)) W := by
  rw [← letters_bN, run_index_string (P := Tryz.prog) (w := W) 9 (bN lettersL) .i64 (n : Int) Tryz.underlying9]
  have h1 : (n : Int) < (bN lettersL).size := by rw [bN_size, letters_len]; omega
  rw [dif_pos ⟨by omega, h1⟩]
  have h2 : n < lettersL.length := by rw [letters_len]; exact hn
  have h3 : lettersL[n] = letN n := by
    have := letters_get n hn
    rw [List.getElem?_eq_getElem h2] at this
    simpa using this
  have h4 : (bN lettersL)[((n : Int)).toNat]'(by omega) = letN n := by
    rw [← h3]; rfl
  rw [h4]
end Go.Proofs.YtoccplfnjammjaaGreatDoor

namespace Go.Proofs.YtoccplfnjammjaaGreatDoor
open Go Go.RowKit Tor Go.Maps

theorem RdG.below' {w w' : World} {B H : Nat} {A : Option Addr} {R : List (List Nat)} (h : RdG w H A R) (hB : Below B w w') (hH : H ≤ B) : RdG w' H A R := h.below (hB.mono hH)
theorem lookB_len {x : Tri} (h : x.s.size ≤ 16) : (lookB x).length ≤ 16 := by
  unfold lookB
  split
  · decide
  · split
    · decide
    · exact h
theorem OkD.wok {p : Nat} {l : List Tri} (h : OkD p l) : ∀ x ∈ l, WOk p x := wok_of h.chk
theorem OkD.words {p : Nat} {l : List Tri} (h : OkD p l) : ∀ x ∈ l, x.s.size ≤ 16 := fun x hx => wordE_size (h.wok x hx).w
theorem pick_mem {l : List Tri} {R : List (List Nat)} (hRi : ∀ r ∈ R, ∀ i ∈ r, i < l.length) {x : Tri} (h : x ∈ pickL l R) : x ∈ l := by
  unfold pickL at h
  obtain ⟨r, hr, hx⟩ := List.mem_flatMap.1 h
  obtain ⟨i, hi, rfl⟩ := List.mem_map.1 hx
  rw [xAt_of (hRi r hr i hi)]
  exact List.getElem_mem _
theorem looks_next (d : List Tri) (k : Nat) (hk : k < d.length) : looksL (d.take (k + 1)) = addL (looksL (d.take k)) (lookB d[k]) := by
  unfold looksL
  rw [take_snoc d k hk, looksF_snoc]
theorem addL_old {L : List (List UInt8)} {x : List UInt8} (h : hasB L x = true) : addL L x = L := by unfold addL; rw [if_pos h]
theorem addL_new {L : List (List UInt8)} {x : List UInt8} (h : hasB L x = false) : addL L x = L ++ [x] := by unfold addL; rw [if_neg (by rw [h]; decide)]
theorem wpList_add_look {ops : Array Oper} {rest : List Oper} {o : Oper} {a : Act} {Q : Exit → Act → World → Prop} {w : World} (hg : o.guard = none) (m x v : Operand) (hop : o.op = Op.mapUpdate 81 m x v)
    (L : List (List UInt8)) (mb n : Nat) (hm : a.eval m = .map (some mb)) (h : MapL L w mb n) (hn : n < maxLen) (X : List UInt8) (hX : X.length ≤ maxLen) (hnew : hasB L X = false) (hx : a.eval x = .string (bN X)) (hv : a.eval v = .int .u8 ((letN L.length).toNat : Int))
    (hK : ∀ w', MapL (L ++ [X]) w' mb (n + 1) → w.grownBy w' (some mb) → wpList Tryz.prog ops Q rest (a.put o.dst undef) w') : wpList Tryz.prog ops Q (o :: rest) a w := by
  refine wpList_plain hg fun K' hK' => ?_
  obtain ⟨w', hrun, r1, r2⟩ := h.add X hX hnew hn
  unfold Oper.wp
  simp [execOp, hop, hm, hx, hv, hrun, Result.andThen]
  exact hK' _ _ (hK w' r1 r2)
/-- looks and letters while they are found -/
def LkI (w1 wr : World) (mb k : Nat) (v : Value) (L : List (List UInt8)) : Prop := Own 1 tenc wr w1.heap.size 9 v L ∧ MapL L wr mb k ∧ L.length ≤ 52 ∧ Same (fun j => j < w1.heap.size ∧ j ≠ mb) w1 wr
/-- what looks returns -/
def LooksRet (w : World) (d : List Tri) (e : Ending) (w' : World) : Prop :=
  (52 < (looksL d).length ∧ e = .returned (.tuple #[.slice none 0 0, .map none, .int .i64 5]) ∧ Below w.heap.size w w') ∨
  ((looksL d).length ≤ 52 ∧ ∃ v mb, e = .returned (.tuple #[v, .map (some mb), .int .i64 0]) ∧ Own 1 tenc w' w.heap.size 9 v (looksL d) ∧ MapL (looksL d) w' mb 1000 ∧ w.heap.size ≤ mb ∧ Below w.heap.size w w')
set_option maxRecDepth 100000 in
set_option maxHeartbeats 4000000 in
theorem looks_any (p : Nat) (A : Option Addr) (l : List Tri) (c : Nat) (AR : Option Addr) (R : List (List Nat)) (cR : Nat) (w : World) (H : Nat) (hr : RdT w H A l) (hg : RdG w H AR R) (hH : H ≤ w.heap.size)
    (hRi : ∀ r ∈ R, ∀ i ∈ r, i < l.length) (hl : l.length ≤ 400) (hRl : R.length ≤ 400) (hPl : (pickL l R).length ≤ 1000) (hRr : ∀ r ∈ R, r.length ≤ 1000) (hws : ∀ x ∈ l, x.s.size ≤ 16) :
    Calls Tryz.prog 45 #[.agg #[.int .i64 p, .slice A l.length c], .slice AR R.length cR] w (LooksRet w (pickL l R)) := by
  obtain ⟨i0, hi0, hz0', hz1', hz2'⟩ := info_parts infoTxt
  have hB0 : Below w.heap.size w ((w.alloc (.cells #[.int .i64 p, .slice A l.length c] 25)).alloc (.map #[] 0)) := ((Below.refl _ _).alloc (Nat.le_refl _) _).alloc (by simp) _
  have hM0 : MapL [] ((w.alloc (.cells #[.int .i64 p, .slice A l.length c] 25)).alloc (.map #[] 0)) (w.heap.size + 1) 0 := ⟨.map [], by have := World.ownsMap_made (w.alloc (.cells #[.int .i64 p, .slice A l.length c] 25)) Tryz.prog 9 (plainElem (H := Unit) Tryz.prog 5); simpa using this, KnownL.empty⟩
  obtain ⟨WW, hWW⟩ : ∃ WW, Hid (WW = (w.alloc (.cells #[.int .i64 p, .slice A l.length c] 25)).alloc (.map #[] 0)) := ⟨_, Lib.hid rfl⟩
  rw [← hWW.out] at hB0 hM0
  have HPK := Lib.hid (picked_any p A l c AR R cR WW H (hr.below' hB0 hH) (hg.below' hB0 hH) (Nat.le_trans hH hB0.size) hRi hl hRl hPl hRr)
  have HWD : Hid (∀ x ∈ pickL l R, x.s.size ≤ 16) := Lib.hid (fun x hx => hws x (pick_mem hRi hx))
  generalize pickL l R = d at *
  have HLK := fun k hk => Lib.hid (looks_next d k hk)
  have HLE := Lib.hid (looksL_le d)
  clear hRi hRr hws
  have hmm := @run_makeMap Tryz.prog
  have hfd : ∀ (W : World) (a : Option Addr) (n m : Nat), (Instr.field 25 (.agg #[.int .i64 p, .slice a n m]) 1).run Tryz.prog W = .ok (.slice a n m) W := fun _ _ _ _ => by kernel_rfl
  go_enter Tryz.func45, Tryz.ntmps45
  go_wp2_with (first
    | (go_at_call 61; rw [← hWW.out]; refine HPK.out.mono ?_; rintro e w1 ⟨A2, c2, rfl, ho2, hc2, hB1⟩
       obtain ⟨A3, c3, e3, _, hrd⟩ := Own.rd tri_len ho2
       injection e3 with e31 e32 e33
       subst e31; subst e33
       have hM1 := hM0.below (hB1.mono (Nat.le_refl _))
       have hBw := hB0.trans (hB1.mono hB0.size)
       have hz1 := hB1.size
       have hmb := hM0.lt)
    | fail)
  clear hmm hfd
  go_loopw [7, 20] (fun v kv wr => ∃ k : Nat, k ≤ d.length ∧ kv = .int .i64 k ∧ LkI w1 wr (w.heap.size + 1) k v (looksL (d.take k))) (fun _ kv _ => d.length - (intOf kv).toNat)
  case atStart => exact ⟨0, Nat.zero_le _, rfl, Own.nil _ _ _, hM1, Nat.zero_le _, Same.refl _ _⟩
  case round =>
    obtain ⟨k, hk, rfl, hown, hM, h52, hS⟩ := hrel
    have hle := HLE.out k
    obtain ⟨L, hL⟩ : ∃ L, Hid (looksL (d.take k) = L) := ⟨_, Lib.hid rfl⟩
    rw [hL.out] at hown hM h52 hle
    by_cases hlt : k < d.length
    · have HN := HLK k hlt
      have hwx := HWD.out d[k] (List.getElem_mem hlt)
      obtain ⟨b, o, hA, hb0, g0, g1, g2⟩ := hrd.tri hlt
      subst hA
      have hbW := (World.ownsRow.lt ho2 b rfl).1
      have hSc : ∀ i, wr.cell? ⟨b, i, none⟩ = w1.cell? ⟨b, i, none⟩ := fun i => hS.cell (p := ⟨b, i, none⟩) ⟨hb0, by show b ≠ _; omega⟩
      rw [← hSc] at g0 g1 g2
      clear hSc
      have hbl := lt_of_cell g0
      have hxl := lookB_len hwx
      have HLO := Lib.hid (fun W => look_any d[k] W)
      obtain ⟨x, hx⟩ : ∃ x, Hid (lookB d[k] = x) := ⟨_, Lib.hid rfl⟩
      rw [hx.out] at HLO hxl
      have i1 : (k : Int) < (d.length : Int) := by omega
      have i2 : (0 : Int) ≤ (k : Int) := by omega
      obtain ⟨Av, cv, rfl, hcv, hrv⟩ := Own.rd tenc_len hown
      have hBa : Below wr.heap.size wr (wr.alloc (.cells #[.int .i64 d[k].a, .int .i64 d[k].b, .string d[k].s] 44)) := (Below.refl _ _).alloc (Nat.le_refl _) _
      have hMl := hM.lt
      have hSz := hS.size
      cases hh : hasB L x
      · have HH := Lib.hid hh
        clear hh
        by_cases hf : L.length = 52
        · have HF := Lib.hid hf
          clear hf
          have e52 : ((L.length : Int) == 52) = true := by simp [HF.out]
          go_wp2_with (first
            | (go_at_call 52; refine (HLO.out _).mono ?_; rintro e w3 ⟨rfl, hB3⟩
               have hB3' := hBa.trans (hB3.mono hBa.size)
               obtain ⟨cc, hcc, hrun⟩ := (hM.below hB3').look x (by unfold maxLen; omega)
               rw [HH.out] at hrun
               clear hcc)
            | fail)
          go_ret3
          refine Or.inl ⟨?_, rfl, ?_⟩
          · have h1 := HLE.out (k + 1)
            rw [HN.out, hL.out, hx.out, addL_new HH.out, List.length_append, HF.out] at h1
            exact h1
          · have hS3 := hS.step (Same.of_below' hB3')
            exact ⟨hS3.os.trans hBw.os, hS3.tape.trans hBw.tape, hS3.output.trans hBw.output, Nat.le_trans hBw.size hS3.size, fun q hq => (hS3.block q ⟨by have := hBw.size; omega, by omega⟩).trans (hBw.block q hq)⟩
        · have HF := Lib.hid hf
          have hf2 : L.length < 52 := by omega
          have e52 : ((L.length : Int) == 52) = false := by simp; omega
          clear hf
          have HLR := letter_run L.length hf2
          go_wp2_with (first
            | (go_at_call 52; refine (HLO.out _).mono ?_; rintro e w3 ⟨rfl, hB3⟩
               have hB3' := hBa.trans (hB3.mono hBa.size)
               have hM3 := hM.below hB3'
               obtain ⟨cc, hcc, hrun⟩ := hM3.look x (by unfold maxLen; omega)
               rw [HH.out] at hrun
               clear hcc)
            | (at_mapUpdate; refine wpList_add_look rfl (.tmp 36) (.tmp 37) (.tmp 40) rfl L (w.heap.size + 1) k rfl hM3 (by unfold maxLen; omega) x (by unfold maxLen; omega) HH.out rfl rfl ?_; intro w4 hM4 hg4
               have ho4 : Own 1 tenc w4 w1.heap.size 9 (.slice Av L.length cv) L := World.ownsRow.kept (hown.below hB3') hg4 (by
                 cases hv : (Value.slice Av L.length cv).ownBlock with
                 | none => exact .inl rfl
                 | some g => right; have := (World.ownsRow.lt hown g hv).1; intro e; simp only [Option.some.injEq] at e; omega)
               have hS4 := (hS.step (Same.of_below' hB3')).step (⟨hg4.os, hg4.tape, hg4.output, hg4.size, fun q hq => hg4.block q hq.1 (fun e => hq.2 (by simpa using e))⟩ : Same (fun j => j < w3.heap.size ∧ j ≠ w.heap.size + 1) w3 w4)
               have hz4 := hS4.size
               have tk := True.intro)
            | (at_builtin; have := tk; refine wpList_append_txt rfl (.tmp 41) (.tmp 43) _ rfl w1.heap.size _ i0 _ Tryz.underlying55 hi0 hz0' hz1' hz2' rfl (.slice Av L.length cv) L rfl (ho4.alloc _) w4.heap.size x rfl (cell_new rfl) (by omega) (by simp; omega) ?_; intro v6 w6 ho6 hg6)
            | fail)
          go_roundw
          case rel =>
            refine ⟨k + 1, by omega, by go_num, ?_⟩
            rw [HN.out, hL.out, hx.out, addL_new HH.out]
            have hnb : some (w.heap.size + 1) ≠ (Value.slice Av L.length cv).ownBlock := fun e => by have := (World.ownsRow.lt hown _ e.symm).1; omega
            refine ⟨ho6, hM4.kept ?_, by simp; omega, ?_⟩
            · exact (hg6.block _ (by have := hM4.lt; simp; omega) hnb).trans (heap_alloc_old _ _ hM4.lt)
            · have hS5 := hS4.step (Same.of_below' ((Below.refl w4.heap.size w4).alloc (Nat.le_refl _) (.cells #[.string (bN x)] 9)))
              exact ⟨hg6.os.trans hS5.os, hg6.tape.trans hS5.tape, hg6.output.trans hS5.output, Nat.le_trans hS5.size hg6.size, fun q hq => (hg6.block q (by have := hS5.size; omega) (fun e => by have := (World.ownsRow.lt hown _ e.symm).1; omega)).trans (hS5.block q hq)⟩
          case measure => simp [intOf]; omega
      · have HH := Lib.hid hh
        clear hh
        go_wp2_with (first
          | (go_at_call 52; refine (HLO.out _).mono ?_; rintro e w3 ⟨rfl, hB3⟩
             have hB3' := hBa.trans (hB3.mono hBa.size)
             obtain ⟨cc, hcc, hrun⟩ := (hM.below hB3').look x (by unfold maxLen; omega)
             rw [HH.out] at hrun
             clear hcc)
          | fail)
        go_roundw
        case rel =>
          refine ⟨k + 1, by omega, by go_num, ?_⟩
          rw [HN.out, hL.out, hx.out, addL_old HH.out]
          exact ⟨hown.below hB3', (hM.below hB3').mono (by omega), h52, hS.step (Same.of_below' hB3')⟩
        case measure => simp [intOf]; omega
    · have e1 : d.take k = d := List.take_of_length_le (by omega)
      rw [e1] at hL
      have HL2 := hL
      go_wp2_with fail
      go_ret3
      refine Or.inr ⟨by rw [hL.out]; exact h52, _, _, rfl, by rw [hL.out]; exact hown.base hBw.size, by rw [hL.out]; exact hM.mono (by omega), by omega, ?_⟩
      exact ⟨hS.os.trans hBw.os, hS.tape.trans hBw.tape, hS.output.trans hBw.output, Nat.le_trans hBw.size hS.size, fun q hq => (hS.block q ⟨by have := hBw.size; omega, by omega⟩).trans (hBw.block q hq)⟩
end Go.Proofs.YtoccplfnjammjaaGreatDoor

namespace Go.Proofs.YtoccplfnjammjaaGreatDoor
open Go Go.RowKit Tor Go.Maps

/-- what Letters returns of a sheet -/
def LetRet (w : World) (L : List (List UInt8)) (e : Ending) (w' : World) : Prop := ∃ v, e = .returned (.tuple #[v, .int .i64 (if 52 < L.length then 5 else 0)]) ∧ Own 1 tenc w' w.heap.size 9 v (if 52 < L.length then [] else L) ∧ Below w.heap.size w w'
theorem letters_bad (p : Int) (A : Option Addr) (l : List Tri) (c : Nat) (w : World) (H : Nat) (hr : RdT w H A l) (hH : H ≤ w.heap.size)
    (hw : ∀ (k : Nat) (hk : k < l.length), l[k].s.size ≤ 9223372036854775807) (hl : l.length ≤ 1000000) (he : sheetE p l ≠ 0) :
    Calls Tryz.prog 24 #[.agg #[.int .i64 p, .slice A l.length c]] w (Ret (.tuple #[.slice none 0 0, .int .i64 (sheetE p l)]) w) := by
  have hB0 : Below w.heap.size w (w.alloc (.cells #[.int .i64 p, .slice A l.length c] 25)) := (Below.refl _ _).alloc (Nat.le_refl _) _
  have HSH := Lib.hid (drows_bad p A l c (w.alloc (.cells #[.int .i64 p, .slice A l.length c] 25)) H (hr.below' hB0 hH) (Nat.le_trans hH hB0.size) hw hl he)
  generalize sheetE p l = E at *
  have hE := bad_ne he
  go_enter Tryz.func24, Tryz.ntmps24
  go_wp2_with (first | (go_at_call 18; refine HSH.out.mono ?_; rintro e w1 ⟨rfl, hB1⟩) | fail)
  go_ret2
  exact ⟨rfl, hB0.trans (hB1.mono hB0.size)⟩
set_option maxRecDepth 100000 in
theorem letters_any (p : Nat) (A : Option Addr) (l : List Tri) (c : Nat) (w : World) (H : Nat) (hr : RdT w H A l) (hH : H ≤ w.heap.size)
    (hw : ∀ (k : Nat) (hk : k < l.length), l[k].s.size ≤ 9223372036854775807) (ok : OkD p l) :
    Calls Tryz.prog 24 #[.agg #[.int .i64 p, .slice A l.length c]] w (LetRet w (looksL (sheetD p l))) := by
  have hB0 : Below w.heap.size w (w.alloc (.cells #[.int .i64 p, .slice A l.length c] 25)) := (Below.refl _ _).alloc (Nat.le_refl _) _
  have kA0 : Blk (w.alloc (.cells #[.int .i64 p, .slice A l.length c] 25)) w.heap.size 25 #[.int .i64 p, .slice A l.length c] := Blk.new w _ _
  have HSH := Lib.hid (drows_any p A l c (w.alloc (.cells #[.int .i64 p, .slice A l.length c] 25)) H (hr.below' hB0 hH) (Nat.le_trans hH hB0.size) hw ok.chk ok.p2 ok.p24 ok.bd ok.len)
  have HLK : Hid (∀ (w1 : World) (AR : Option Addr) (cR : Nat), RdT w1 w1.heap.size A l → RdG w1 w1.heap.size AR (rowsS p l) → Calls Tryz.prog 45 #[.agg #[.int .i64 p, .slice A l.length c], .slice AR (rowsS p l).length cR] w1 (LooksRet w1 (sheetD p l))) := Lib.hid (fun w1 AR cR h1 h2 =>
    looks_any p A l c AR (rowsS p l) cR w1 w1.heap.size h1 h2 (Nat.le_refl _) (fun r hr' => row_in hr') ok.len (Nat.le_trans (rowsS_len p l) ok.len) (by have := sheetD_len ok.inP; have := ok.len; unfold sheetD at *; omega) (fun r hr' => by have := row_len ok.inP hr'; have := ok.len; omega) ok.words)
  generalize sheetD p l = D at *
  generalize rowsS p l = RS at *
  have hz0 := hB0.size
  clear ok
  go_enter Tryz.func24, Tryz.ntmps24
  go_wp2_with (first
    | (go_at_call 18; refine HSH.out.mono ?_; rintro e w1 ⟨v, vs, rfl, hG, hB1⟩
       obtain ⟨AR, cR, rfl, hcR, hrG⟩ := hG.rd2
       have kA := kA0.below' hB1
       have a0 := kA.cell 0 _ rfl
       have a1 := kA.cell 1 _ rfl
       have al := kA.lt
       have hBf := hB0.trans (hB1.mono hz0)
       have hzf := hBf.size
       have HPK := Lib.hid (HLK.out w1 AR cR ((hr.below' hBf hH).more (by omega)) hrG)
       have tk := True.intro)
    | fail)
  refine HPK.out.mono ?_
  rintro e w2 h
  rcases h with ⟨h52, rfl, hB2⟩ | ⟨h52, v2, mb, rfl, ho2, hM2, hmb, hB2⟩
  · go_wp2_with fail
    go_ret2
    exact ⟨_, by rw [if_pos h52]; rfl, by rw [if_pos h52]; exact Own.nil _ _ _, hBf.trans (hB2.mono hzf)⟩
  · go_wp2_with fail
    go_ret2
    exact ⟨_, by rw [if_neg (by omega)]; rfl, by rw [if_neg (by omega)]; exact ho2.base hzf, hBf.trans (hB2.mono hzf)⟩
/-- where a text stands in a list -/
def idxI (L : List (List UInt8)) (x : List UInt8) : Int := if hasB L x = true then idxB L x else -1
theorem idxI_at {L : List (List UInt8)} {x : List UInt8} {k : Nat} (hk : k < L.length) (h0 : ∀ j (hj : j < k), L[j]'(by omega) ≠ x) (h1 : L[k] = x) : idxI L x = k := by
  have hh : hasB L x = true := hasB_iff.2 (h1 ▸ List.getElem_mem hk)
  unfold idxI idxB
  rw [if_pos hh]
  congr 1
  refine (List.findIdx_eq hk).2 ⟨by simpa using h1, fun j hj => by simpa using h0 j hj⟩
theorem idxI_none {L : List (List UInt8)} {x : List UInt8} (h0 : ∀ j (hj : j < L.length), L[j] ≠ x) : idxI L x = -1 := by
  have hh : ¬ hasB L x = true := fun h => by
    obtain ⟨j, hj, e⟩ := List.getElem_of_mem (hasB_iff.1 h)
    exact h0 j hj e
  unfold idxI
  rw [if_neg hh]
set_option maxRecDepth 100000 in
theorem rindex_any (A : Option Addr) (L : List (List UInt8)) (c : Nat) (x : List UInt8) (w : World) (H : Nat) (hr : Rd 1 tenc w H A L) (hl : L.length ≤ 1000000) :
    Calls Tryz.prog 64 #[.slice A L.length c, .string (bN x)] w fun e w' => e = .returned (.int .i64 (idxI L x)) ∧ w' = w := by
  go_enter Tryz.func64, Tryz.ntmps64
  go_wp2_with fail
  go_loopw [5] (fun iv wr => wr.heap.size = wr.heap.size ∧ ∃ k : Nat, k ≤ L.length ∧ iv = .int .i64 k ∧ Hid (∀ j (hj : j < k) (hj2 : j < L.length), L[j] ≠ x) ∧ Hid (wr = w)) (fun iv _ => L.length - (intOf iv).toNat)
  case atStart => exact ⟨rfl, 0, Nat.zero_le _, rfl, fun j hj => absurd hj (by omega), Lib.hid rfl⟩
  case round =>
    obtain ⟨_, k, hk, rfl, hno, hwr⟩ := hrel
    have hrr : Rd 1 tenc wr H A L := by rw [hwr.out]; exact hr
    by_cases hlt : k < L.length
    · obtain ⟨b, o, rfl, hb, h0⟩ := hrr.txt hlt
      have i1 : (k : Int) < (L.length : Int) := by omega
      have i2 : (0 : Int) ≤ (k : Int) := by omega
      have hbl := lt_of_cell h0
      have tx := bN_toList x
      by_cases e : L[k] = x
      · have HE := Lib.hid e
        rw [e] at h0
        clear e
        go_wp2_with fail
        go_ret
        exact ⟨by rw [idxI_at hlt (fun j hj => hno.out j hj (by omega)) HE.out]; rfl, hwr.out⟩
      · obtain ⟨y, hy⟩ : ∃ y, Hid (L[k] = y) := ⟨_, Lib.hid rfl⟩
        rw [hy.out] at e h0
        have ty := bN_toList y
        have e1 : (y == x) = false := beq_eq_false_iff_ne.2 e
        have HE := Lib.hid e
        clear e
        go_wp2_with fail
        go_roundw
        case rel =>
          refine ⟨by first | rfl | trivial, k + 1, by omega, by go_num, Lib.hid (fun j hj hj2 => ?_), hwr⟩
          by_cases e : j = k
          · subst e; rw [hy.out]; exact HE.out
          · exact hno.out j (by omega) hj2
        case measure => simp [intOf]; omega
    · go_wp2_with fail
      go_ret
      exact ⟨by rw [idxI_none (fun j hj => hno.out j (by omega) hj)]; rfl, hwr.out⟩
end Go.Proofs.YtoccplfnjammjaaGreatDoor

namespace Go.Proofs.YtoccplfnjammjaaGreatDoor
open Go Go.RowKit Tor Go.Maps

theorem looksF_len : ∀ (d : List Tri) (L : List (List UInt8)), (looksF L d).length ≤ L.length + d.length
  | [], L => Nat.le_refl _
  | x :: r, L => by
    have h1 := looksF_len r (addL L (lookB x))
    have h2 := (addL_len L (lookB x)).2
    show (looksF (addL L (lookB x)) r).length ≤ _
    simp only [List.length_cons]; omega
theorem looksL_len (d : List Tri) : (looksL d).length ≤ d.length := by have := looksF_len d []; simp at this; exact this
theorem idxI_has {L : List (List UInt8)} {x : List UInt8} (h : hasB L x = true) : idxI L x = (idxB L x : Nat) := by unfold idxI; rw [if_pos h]
theorem idxI_no {L : List (List UInt8)} {x : List UInt8} (h : hasB L x = false) : idxI L x = -1 := by unfold idxI; rw [if_neg (by rw [h]; decide)]
theorem rletters_bad (p : Int) (A : Option Addr) (l : List Tri) (c : Nat) (w : World) (H : Nat) (hr : RdT w H A l) (hH : H ≤ w.heap.size)
    (hw : ∀ (k : Nat) (hk : k < l.length), l[k].s.size ≤ 9223372036854775807) (hl : l.length ≤ 1000000) (he : sheetE p l ≠ 0) :
    Calls Tryz.prog 29 #[.agg #[.int .i64 p, .slice A l.length c]] w (Ret (.tuple #[.slice none 0 0, .int .i64 (sheetE p l)]) w) := by
  have hB0 : Below w.heap.size w (w.alloc (.cells #[.int .i64 p, .slice A l.length c] 25)) := (Below.refl _ _).alloc (Nat.le_refl _) _
  have HSH := Lib.hid (rdsheet_bad p A l c (w.alloc (.cells #[.int .i64 p, .slice A l.length c] 25)) H (hr.below' hB0 hH) (Nat.le_trans hH hB0.size) hw hl he)
  generalize sheetE p l = E at *
  have hE := bad_ne he
  have hz0 := hB0.size
  go_enter Tryz.func29, Tryz.ntmps29
  go_wp2_with (first | (go_at_call 27; refine HSH.out.mono ?_; rintro e w1 ⟨rfl, hB1⟩; have hz1 := hB1.size) | fail)
  go_ret2
  exact ⟨rfl, (hB0.trans (hB1.mono hB0.size)).alloc (by omega) _⟩
set_option maxRecDepth 100000 in
set_option maxHeartbeats 2000000 in
theorem rletters_any (p : Nat) (A : Option Addr) (l : List Tri) (c : Nat) (w : World) (H : Nat) (hr : RdT w H A l) (hH : H ≤ w.heap.size)
    (hw : ∀ (k : Nat) (hk : k < l.length), l[k].s.size ≤ 9223372036854775807) (ok : OkD p l) :
    Calls Tryz.prog 29 #[.agg #[.int .i64 p, .slice A l.length c]] w (LetRet w (looksL (sheetD p l))) := by
  obtain ⟨i0, hi0, hz0', hz1', hz2'⟩ := info_parts infoTxt
  have hB0 : Below w.heap.size w (w.alloc (.cells #[.int .i64 p, .slice A l.length c] 25)) := (Below.refl _ _).alloc (Nat.le_refl _) _
  have HSH := Lib.hid (rdsheet_any p A l c (w.alloc (.cells #[.int .i64 p, .slice A l.length c] 25)) H (hr.below' hB0 hH) (Nat.le_trans hH hB0.size) hw ok)
  have HWD : Hid (∀ x ∈ sheetD p l, x.s.size ≤ 16) := Lib.hid (fun x hx => ok.words x (pick_mem (fun r hr' => row_in hr') hx))
  have hdl : (sheetD p l).length ≤ 400 := Nat.le_trans (Nat.le_of_eq (sheetD_len ok.inP)) ok.len
  generalize sheetD p l = D at *
  have HLKN := fun k hk => Lib.hid (looks_next D k hk)
  have HLE := Lib.hid (fun k => looksL_len (D.take k))
  have hz0 := hB0.size
  clear ok
  go_enter Tryz.func29, Tryz.ntmps29
  go_wp2_with (first
    | (go_at_call 27; refine HSH.out.mono ?_; rintro e w1 ⟨A2, c2, rfl, ho2, hc2, hB1⟩
       obtain ⟨A3, c3, e3, _, hrd⟩ := Own.rd tri_len ho2
       injection e3 with e31 e32 e33
       subst e31; subst e33
       have hBf := hB0.trans (hB1.mono hz0)
       have hzf := hBf.size)
    | fail)
  have kD0 : Blk (w1.alloc (.cells #[.int .i64 p, .slice A2 D.length c2] 25)) w1.heap.size 25 #[.int .i64 p, .slice A2 D.length c2] := Blk.new w1 _ _
  have hBg := hBf.alloc hzf (.cells #[.int .i64 p, .slice A2 D.length c2] 25)
  have hrd2 := hrd.below ((Below.refl w1.heap.size w1).alloc (Nat.le_refl _) (.cells #[.int .i64 p, .slice A2 D.length c2] 25))
  have hzg : (w1.alloc (.cells #[.int .i64 p, .slice A2 D.length c2] 25)).heap.size = w1.heap.size + 1 := World.size_alloc _ _
  generalize w1.alloc (.cells #[.int .i64 p, .slice A2 D.length c2] 25) = w3 at *
  have hzg2 : w1.heap.size < w3.heap.size := by omega
  clear hzg
  go_loopw [6, 7] (fun v kv wr => ∃ k : Nat, k ≤ D.length ∧ kv = .int .i64 k ∧ Own 1 tenc wr w3.heap.size 9 v (looksL (D.take k)) ∧ Below w3.heap.size w3 wr) (fun _ kv _ => D.length - (intOf kv).toNat)
  case atStart => exact ⟨0, Nat.zero_le _, rfl, Own.nil _ _ _, Below.refl _ _⟩
  case round =>
    obtain ⟨k, hk, rfl, hown, hB⟩ := hrel
    have hle := HLE.out k
    rw [List.length_take] at hle
    have kD := kD0.below' hB
    have d1 := kD.cell 1 (.slice A2 D.length c2) rfl
    have dl := kD.lt
    have hzr := hB.size
    obtain ⟨L, hL⟩ : ∃ L, Hid (looksL (D.take k) = L) := ⟨_, Lib.hid rfl⟩
    rw [hL.out] at hown hle
    obtain ⟨Av, cv, rfl, hcv, hrv⟩ := Own.rd tenc_len hown
    by_cases hlt : k < D.length
    · have HN := HLKN k hlt
      have hwx := HWD.out D[k] (List.getElem_mem hlt)
      obtain ⟨b, o, hA, hb0, g0, g1, g2⟩ := (hrd2.below' hB (by omega)).tri hlt
      subst hA
      have hbl := lt_of_cell g0
      have hxl := lookB_len hwx
      have HLO := Lib.hid (fun W => rlook_any D[k] W)
      obtain ⟨x, hx⟩ : ∃ x, Hid (lookB D[k] = x) := ⟨_, Lib.hid rfl⟩
      rw [hx.out] at HLO hxl
      have i1 : (k : Int) < (D.length : Int) := by omega
      have i2 : (0 : Int) ≤ (k : Int) := by omega
      cases hh : hasB L x
      · have HI := Lib.hid (idxI_no hh)
        have HH := Lib.hid hh
        clear hh
        have tk1 := True.intro
        go_wp2_with (first
          | (go_at_call 65; have := tk1; refine (HLO.out _).mono ?_; rintro e w4 ⟨rfl, hB4⟩
             have kD4 := kD.below' hB4
             have d14 := kD4.cell 1 (.slice (some ⟨b, o, none⟩) D.length c2) rfl
             have dl4 := kD4.lt
             have g04 := (hB4.cell (p := ⟨b, _, none⟩) hbl).trans g0
             have g14 := (hB4.cell (p := ⟨b, _, none⟩) hbl).trans g1
             have g24 := (hB4.cell (p := ⟨b, _, none⟩) hbl).trans g2
             have hbl4 := lt_of_cell g04
             clear tk1
             have tk2 := True.intro)
          | (go_at_call 64; have := tk2; refine (rindex_any Av L cv x w4 wr.heap.size (hrv.below hB4) (by omega)).mono ?_; rintro e w5 ⟨rfl, rfl⟩; rw [HI.out]
             clear tk2
             have tk3 := True.intro)
          | (go_at_call 65; have := tk3; refine (HLO.out _).mono ?_; rintro e w6 ⟨rfl, hB6⟩
             have ho6 := (hown.below hB4).below hB6
             have hB6' := hB.trans ((hB4.mono hzr).trans (hB6.mono (by have := hB4.size; omega)))
             have hz6 := hB6'.size)
          | (at_builtin; refine wpList_append_txt rfl (.tmp 32) (.tmp 39) _ rfl w3.heap.size _ i0 _ Tryz.underlying55 hi0 hz0' hz1' hz2' rfl (.slice Av L.length cv) L rfl (ho6.alloc _) w6.heap.size x rfl (cell_new rfl) (by omega) (by simp; omega) ?_; intro v8 w8 ho8 hg8
             have hB8 := (ho6.alloc (.cells #[.string (bN x)] 9)).grown (hB6'.alloc hz6 (.cells #[.string (bN x)] 9)) hg8 (by simp; omega))
          | fail)
        go_roundw
        case rel => exact ⟨k + 1, by omega, by go_num, by rw [HN.out, hL.out, hx.out, addL_new HH.out]; exact ho8, hB8⟩
        case measure => simp [intOf]; omega
      · have HI := Lib.hid (idxI_has hh)
        have HH := Lib.hid hh
        clear hh
        have tk1 := True.intro
        go_wp2_with (first
          | (go_at_call 65; have := tk1; refine (HLO.out _).mono ?_; rintro e w4 ⟨rfl, hB4⟩; clear tk1)
          | (go_at_call 64; refine (rindex_any Av L cv x w4 wr.heap.size (hrv.below hB4) (by omega)).mono ?_; rintro e w5 ⟨rfl, rfl⟩; rw [HI.out])
          | fail)
        go_roundw
        case rel => exact ⟨k + 1, by omega, by go_num, by rw [HN.out, hL.out, hx.out, addL_old HH.out]; exact hown.below hB4, hB.trans (hB4.mono hzr)⟩
        case measure => simp [intOf]; omega
    · have e1 : D.take k = D := List.take_of_length_le (by omega)
      rw [e1] at hL
      by_cases h52 : 52 < L.length
      · have i3 : (52 : Int) < (L.length : Int) := by omega
        go_wp2_with fail
        go_ret2
        exact ⟨_, by rw [hL.out, if_pos h52]; rfl, by rw [hL.out, if_pos h52]; exact Own.nil _ _ _, hBg.trans (hB.mono (by omega))⟩
      · have i3 : ¬ (52 : Int) < (L.length : Int) := by omega
        go_wp2_with fail
        go_ret2
        exact ⟨_, by rw [hL.out, if_neg h52]; rfl, by rw [hL.out, if_neg h52]; exact hown.base (by omega), hBg.trans (hB.mono (by omega))⟩
end Go.Proofs.YtoccplfnjammjaaGreatDoor
