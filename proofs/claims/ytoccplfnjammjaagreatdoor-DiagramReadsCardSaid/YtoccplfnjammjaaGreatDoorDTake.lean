/- diagram.Read: the reader's small functions. -/
import Derived.Test.YtoccplfnjammjaaGreatDoorDDrawA
import Derived.Test.YtoccplfnjammjaaGreatDoorDLines
set_option linter.unusedSimpArgs false
set_option linter.unusedVariables false
namespace Go.Proofs.YtoccplfnjammjaaGreatDoor
open Go Go.RowKit Tor

/-- the reader, as it lies -/
def RdrAt (w : World) (rb : Nat) (AX : Option Addr) (cX : Nat) (X : List (List UInt8)) (n : Nat) : Prop := Blk w rb 65 #[.slice AX X.length cX, .int .i64 n]
/-- all but the reader is as it was -/
def KeptR (rb : Nat) (w w' : World) : Prop := Same (fun j => j < w.heap.size ∧ j ≠ rb) w w'
theorem KeptR.refl (rb : Nat) (w : World) : KeptR rb w w := Same.refl _ _
theorem KeptR.of_below {rb : Nat} {w w' : World} (h : Below w.heap.size w w') : KeptR rb w w' := Same.of_below' h
theorem KeptR.trans {rb : Nat} {w w1 w2 : World} (h : KeptR rb w w1) (g : KeptR rb w1 w2) : KeptR rb w w2 := Same.step h g
theorem KeptR.set {rb : Nat} (w : World) (i : Nat) (v : Value) : KeptR rb w (w.setCell ⟨rb, i, none⟩ v) := ⟨rfl, rfl, rfl, by simp, fun k hk => Below.heap_setCell w ⟨rb, i, none⟩ v k hk.2⟩
theorem KeptR.drewN {rb : Nat} {w w' : World} (h : KeptR rb w w') (n : Nat) : KeptR rb w (w'.drewN n) := ⟨h.os, h.tape, h.output, h.size, h.block⟩
theorem KeptR.cell {rb : Nat} {w w' : World} (h : KeptR rb w w') {b o : Nat} {v : Value} (hb : b ≠ rb) (hc : w.cell? ⟨b, o, none⟩ = some v) : w'.cell? ⟨b, o, none⟩ = some v := (Same.cell h (p := ⟨b, o, none⟩) ⟨lt_of_cell hc, hb⟩).trans hc
theorem KeptR.rd {α : Type} {sz : Nat} {enc : α → List Value} {rb : Nat} {w w' : World} {H : Nat} {A : Option Addr} {l : List α} (h : KeptR rb w w') (hr : Rd sz enc w H A l) (hH : H ≤ w.heap.size) (hrb : H ≤ rb) : Rd sz enc w' H A l :=
  hr.keep fun q hq => Same.cell h (p := q) ⟨by omega, by omega⟩
set_option maxRecDepth 100000 in
theorem take_any (rb : Nat) (AX : Option Addr) (cX : Nat) (X : List (List UInt8)) (n : Nat) (w : World) (H : Nat) (hR : RdrAt w rb AX cX X n) (hX : Rd 1 tenc w H AX X) (hH : H ≤ rb) (hn : n ≤ X.length) (hl : X.length ≤ 1000000) :
    Calls Tryz.prog 69 #[.pointer (some ⟨rb, 0, none⟩)] w fun e w' =>
      (n < X.length ∧ e = .returned (.tuple #[.string (bN (X.getD n [])), .bool true]) ∧ RdrAt w' rb AX cX X (n + 1) ∧ KeptR rb w w') ∨
      (n = X.length ∧ e = .returned (.tuple #[.string (bN []), .bool false]) ∧ RdrAt w' rb AX cX X n ∧ KeptR rb w w') := by
  have c0 := hR.cell 0 _ rfl
  have c1 := hR.cell 1 _ rfl
  have rl := hR.lt
  by_cases hlt : n < X.length
  · obtain ⟨b, o, rfl, hb, h0⟩ := hX.txt hlt
    have hbl := lt_of_cell h0
    have e0 : ((n : Int) == (X.length : Int)) = false := by simp; omega
    have e1 : IntKind.i64.wrap ((n : Int) + 1) = (n : Int) + 1 := IntWalk.i64_in _ (by omega)
    have e2 : (n : Int) + 1 - 1 = (n : Int) := by omega
    have i1 : (n : Int) < (X.length : Int) := by omega
    have i2 : (0 : Int) ≤ (n : Int) := by omega
    have f1 := hR.frozen 1
    have hg : X.getD n [] = X[n] := by rw [List.getD_eq_getElem?_getD, List.getElem?_eq_getElem hlt]; rfl
    rw [hg]
    obtain ⟨x, hx⟩ : ∃ x, Hid (X[n] = x) := ⟨_, Lib.hid rfl⟩
    rw [hx.out] at h0 ⊢
    clear hg
    go_enter Tryz.func69, Tryz.ntmps69
    go_wp2_with fail
    go_quiet (fail)
    go_wp2_with fail
    have hR2 : RdrAt ((w.drewN nq).setCell ⟨rb, 1, none⟩ (.int .i64 ((n : Int) + 1))) rb (some ⟨b, o, none⟩) cX X (n + 1) := by
      have := (show Blk (w.drewN nq) rb _ _ from hR).set_ 1 (.int .i64 ((n : Int) + 1))
      exact this
    have hK2 : KeptR rb w ((w.drewN nq).setCell ⟨rb, 1, none⟩ (.int .i64 ((n : Int) + 1))) := ((KeptR.refl rb w).drewN nq).trans (KeptR.set _ 1 _)
    have h02 := hK2.cell (by omega) h0
    generalize (w.drewN nq).setCell ⟨rb, 1, none⟩ (.int .i64 ((n : Int) + 1)) = w2 at *
    have d0 := hR2.cell 0 _ rfl
    have d1 := hR2.cell 1 _ rfl
    have dl := hR2.lt
    have hbl2 := lt_of_cell h02
    clear c0 c1 rl f1 h0 hbl
    go_wp2_with fail
    go_quiet (fail)
    go_wp2_with fail
    go_ret2
    exact .inl ⟨hlt, rfl, hR2, hK2.drewN _⟩
  · obtain rfl : n = X.length := by omega
    go_enter Tryz.func69, Tryz.ntmps69
    go_wp2_with fail
    go_quiet (fail)
    go_wp2_with fail
    go_ret2
    exact .inr ⟨by first | rfl | trivial, rfl, hR, (KeptR.refl rb w).drewN _⟩
theorem wrong_any (rb : Nat) (AX : Option Addr) (cX : Nat) (X : List (List UInt8)) (n : Nat) (w : World) (hR : RdrAt w rb AX cX X n) (pb : Nat) (hp : w.cell? ⟨pb, 0, none⟩ = some (.pointer (some ⟨rb, 0, none⟩))) :
    Calls Tryz.prog 33 #[.pointer (some ⟨pb, 0, none⟩)] w (Ret (.tuple #[.agg #[.int .i64 0, .slice none 0 0], .int .i64 (max n 1 : Nat), .int .i64 6]) w) := by
  have kR0 := Blk.new w 25 #[.int .i64 0, .slice none 0 0]
  have hB0 : Below w.heap.size w (w.alloc (.cells #[.int .i64 0, .slice none 0 0] 25)) := (Below.refl _ _).alloc (Nat.le_refl _) _
  have hR0 : RdrAt (w.alloc (.cells #[.int .i64 0, .slice none 0 0] 25)) rb AX cX X n := hR.alloc _
  have hp0 := (hB0.cell (p := ⟨pb, _, none⟩) (lt_of_cell hp)).trans hp
  have hpb := lt_of_cell hp
  have hrb := hR.lt
  have e1 : max (n : Int) 1 = ((max n 1 : Nat) : Int) := by omega
  go_enter Tryz.func33, Tryz.ntmps33
  go_wp2_with fail
  obtain ⟨w0, hw0⟩ : ∃ w0, w0 = w.alloc (.cells #[.int .i64 0, .slice none 0 0] 25) := ⟨_, rfl⟩
  rw [← hw0] at kR0 hB0 hR0 hp0 ⊢
  clear hw0 hp
  have c1 := hR0.cell 1 _ rfl
  have r0 := kR0.cell 0 _ rfl
  have r1 := kR0.cell 1 _ rfl
  have f0 := kR0.frozen 0
  have f1 := kR0.frozen 1
  have nl := kR0.lt
  have hrl := hR0.lt
  have hpl := lt_of_cell hp0
  go_region
  have kR1 : Blk ((w0.setCell ⟨w.heap.size, 0, none⟩ (.int .i64 0)).setCell ⟨w.heap.size, 1, none⟩ (.slice none 0 0)) w.heap.size 25 #[.int .i64 0, .slice none 0 0] := by simpa using (kR0.set_ 0 (.int .i64 0)).set_ 1 (.slice none 0 0)
  go_wp2_with fail
  (try simp only [Exit.inBlock, Exit.then])
  refine sheet_ret rfl rfl (g := w.heap.size) (x := .int .i64 0) (y := .slice none 0 0) kR1 rfl ?_
  exact ⟨rfl, by (repeat' first | assumption | exact Below.refl _ _ | apply Below.drew | (refine Below.setCells ?_ _ _ ?_) | (refine Below.setCell ?_ ?_ _) | (refine Below.alloc ?_ ?_ _) | (simp; done) | (simp; omega))⟩
def pick3 (S : List (List UInt8)) (F : List UInt8) : Option (List UInt8 × List UInt8) := match S with
  | [a, b, c] => if a = F then some (b, c) else none
  | _ => none
theorem threeP_pick (L F : List UInt8) : threeP L F = pick3 (spl 32 L) F := rfl
theorem pick3_none {S : List (List UInt8)} (F : List UInt8) (h : S.length ≠ 3) : pick3 S F = none := by
  match S, h with
  | [], _ => rfl
  | [_], _ => rfl
  | [_, _], _ => rfl
  | [_, _, _], h => exact absurd rfl h
  | _ :: _ :: _ :: _ :: _, _ => rfl
theorem three_any (L F : List UInt8) (w : World) (hDt : DtAt w) (hs : L.length ≤ 4000000) :
    Calls Tryz.prog 70 #[.string (bN L), .string (bN F)] w fun e w' => Below w.heap.size w w' ∧
      match threeP L F with
      | none => e = .returned (.slice none 0 0)
      | some (a, b) => ∃ g, e = .returned (.slice (some ⟨g, 1, none⟩) 2 2) ∧ w'.cell? ⟨g, 1, none⟩ = some (.string (bN a)) ∧ w'.cell? ⟨g, 2, none⟩ = some (.string (bN b)) := by
  have HS := Lib.hid (split_any L 32 w hDt hs)
  rw [split_spl] at HS
  rw [threeP_pick]
  have hpos : 0 < (spl 32 L).length := List.length_pos_iff.2 (spl_ne 32 L)
  generalize spl 32 L = S at *
  by_cases h3 : S.length = 3
  · obtain ⟨a, b, c, rfl⟩ : ∃ a b c, S = [a, b, c] := by
      match S, h3 with
      | [a, b, c], _ => exact ⟨a, b, c, rfl⟩
    have ta := bN_toList a
    have tF := bN_toList F
    have kB := Blk.new w 9 #[.string (bN a), .string (bN b), .string (bN c)]
    have hB : Below w.heap.size w (w.alloc (.cells #[.string (bN a), .string (bN b), .string (bN c)] 9)) := (Below.refl _ _).alloc (Nat.le_refl _) _
    have c0 := kB.cell 0 _ rfl
    have c1 := kB.cell 1 _ rfl
    have c2 := kB.cell 2 _ rfl
    have n0 := kB.lt
    clear h3 hpos
    by_cases he : a = F
    · subst he
      rw [show pick3 [a, b, c] a = some (b, c) from if_pos rfl]
      go_enter Tryz.func70, Tryz.ntmps70
      go_wp2_with (first
        | (go_at_call 68; refine HS.out.mono ?_; rintro e w1 ⟨rfl, rfl⟩; simp only [List.length_cons, List.length_nil, List.map_cons, List.map_nil])
        | fail)
      go_ret
      exact ⟨hB, w.heap.size, rfl, c1, c2⟩
    · have e1 : (a == F) = false := beq_eq_false_iff_ne.2 he
      have HE := Lib.hid he
      rw [show pick3 [a, b, c] F = none from if_neg he]
      clear he
      go_enter Tryz.func70, Tryz.ntmps70
      go_wp2_with (first
        | (go_at_call 68; refine HS.out.mono ?_; rintro e w1 ⟨rfl, rfl⟩; simp only [List.length_cons, List.length_nil, List.map_cons, List.map_nil])
        | fail)
      go_ret
      exact ⟨hB, rfl⟩
  · rw [pick3_none F h3]
    have e1 : ((S.length : Int) == 3) = false := by simp; omega
    clear h3
    have hB : Below w.heap.size w (w.alloc (.cells (S.map fun t => Value.string (bN t)).toArray 9)) := (Below.refl _ _).alloc (Nat.le_refl _) _
    go_enter Tryz.func70, Tryz.ntmps70
    go_wp2_with (first
      | (go_at_call 68; refine HS.out.mono ?_; rintro e w1 ⟨rfl, rfl⟩)
      | fail)
    go_ret
    exact ⟨hB, rfl⟩
/-- what the first line says -/
def headR (X : List (List UInt8)) : Int × Int × Bool := match X with
  | [] => (0, 0, false)
  | s :: _ => match threeP s dgB with
    | none => (0, 0, false)
    | some (a, b) => ((intW a 2 24).1, (intW b 0 400).1, decide ((intW a 2 24).2 = 0) && decide ((intW b 0 400).2 = 0))
/-- where the reader stands: the lines lie below w0 -/
structure RdE (w0 w : World) (rb : Nat) (AX : Option Addr) (X : List (List UInt8)) : Prop where
  b : Below w0.heap.size w0 w
  le : w0.heap.size ≤ rb
  dt : DtAt w0
  hx : Rd 1 tenc w0 w0.heap.size AX X
theorem RdE.dta {w0 w : World} {rb : Nat} {AX : Option Addr} {X : List (List UInt8)} (h : RdE w0 w rb AX X) : DtAt w := h.dt.below h.b
theorem RdE.rd {w0 w : World} {rb : Nat} {AX : Option Addr} {X : List (List UInt8)} (h : RdE w0 w rb AX X) : Rd 1 tenc w w0.heap.size AX X := h.hx.below h.b
theorem RdE.kept {w0 w w' : World} {rb : Nat} {AX : Option Addr} {X : List (List UInt8)} (h : RdE w0 w rb AX X) (k : KeptR rb w w') : RdE w0 w' rb AX X := by
  have h1 := h.le
  have h2 := h.b.size
  exact ⟨⟨k.os.trans h.b.os, k.tape.trans h.b.tape, k.output.trans h.b.output, Nat.le_trans h.b.size k.size, fun j hj => (k.block j ⟨by omega, by omega⟩).trans (h.b.block j hj)⟩, h.le, h.dt, h.hx⟩
theorem RdE.below {w0 w w' : World} {rb : Nat} {AX : Option Addr} {X : List (List UInt8)} (h : RdE w0 w rb AX X) (k : Below w.heap.size w w') : RdE w0 w' rb AX X := h.kept (KeptR.of_below k)
theorem RdrAt.below {w w' : World} {rb : Nat} {AX : Option Addr} {cX : Nat} {X : List (List UInt8)} {n : Nat} (h : RdrAt w rb AX cX X n) (hB : Below w.heap.size w w') : RdrAt w' rb AX cX X n := (show Blk w rb _ _ from h).below' hB
theorem spl_len (c : UInt8) : ∀ (L x : List UInt8), x ∈ spl c L → x.length ≤ L.length
  | [], x, h => by simp [spl] at h; subst h; simp
  | b :: r, x, h => by
    rw [spl] at h
    split at h
    · rcases List.mem_cons.1 h with h | h
      · subst h; simp
      · have := spl_len c r x h; simp; omega
    · cases hs : spl c r with
      | nil => exact absurd hs (spl_ne c r)
      | cons y t =>
        rw [hs] at h
        simp only [List.mem_cons] at h
        rcases h with h | h
        · have := spl_len c r y (by rw [hs]; simp)
          subst h; simp; omega
        · have := spl_len c r x (by rw [hs]; simp [h]); simp; omega
theorem threeP_some {L F a b : List UInt8} (h : threeP L F = some (a, b)) : spl 32 L = [F, a, b] := by
  rw [threeP_pick] at h
  unfold pick3 at h
  split at h
  · rename_i x y z hs
    split at h
    · rename_i e
      simp only [Option.some.injEq, Prod.mk.injEq] at h
      obtain ⟨rfl, rfl⟩ := h
      rw [hs, e]
    · cases h
  · cases h
theorem threeP_len {L F a b : List UInt8} (h : threeP L F = some (a, b)) : a.length ≤ L.length ∧ b.length ≤ L.length := by
  have e := threeP_some h
  exact ⟨spl_len 32 L a (by rw [e]; simp), spl_len 32 L b (by rw [e]; simp)⟩
theorem headR_eq (X : List (List UInt8)) : headR X = match threeP (X.getD 0 []) dgB with | none => (0, 0, false) | some (a, b) => ((intW a 2 24).1, (intW b 0 400).1, decide ((intW a 2 24).2 = 0) && decide ((intW b 0 400).2 = 0)) := by
  cases X with
  | nil => rfl
  | cons s r => rfl
set_option maxRecDepth 100000 in
set_option maxHeartbeats 2000000 in
theorem head_any (w0 : World) (rb : Nat) (AX : Option Addr) (cX : Nat) (X : List (List UInt8)) (w : World) (hR : RdrAt w rb AX cX X 0) (hE : RdE w0 w rb AX X) (hl : X.length ≤ 100000) (hx : (X.getD 0 []).length ≤ 1000000) :
    Calls Tryz.prog 34 #[.pointer (some ⟨rb, 0, none⟩)] w fun e w' => e = .returned (.tuple #[.int .i64 (headR X).1, .int .i64 (headR X).2.1, .bool (headR X).2.2]) ∧ RdrAt w' rb AX cX X (min X.length 1) ∧ KeptR rb w w' := by
  have HT := Lib.hid (take_any rb AX cX X 0 w w0.heap.size hR hE.rd hE.le (Nat.zero_le _) (by omega))
  have q22 : ∀ (w : World) (a : Option Addr) (n c n' c' : Nat), (binOp .eql 55 (.slice a n c) (.slice none n' c')).run Tryz.prog w = .ok (.bool a.isNone) w := fun w a n c n' c' => Lib.run_eql_slice_nil w _ _ a n c n' c' Tryz.underlying55
  have e0 : (⟨#[100, 105, 97, 103, 114, 97, 109]⟩ : ByteArray) = bN dgB := rfl
  have hHd := Lib.hid (headR_eq X)
  obtain ⟨T, hT⟩ : ∃ T, Hid (X.getD 0 [] = T) := ⟨_, Lib.hid rfl⟩
  rw [hT.out] at hHd HT hx
  obtain ⟨HD, hHD⟩ : ∃ HD, Hid (headR X = HD) := ⟨_, Lib.hid rfl⟩
  rw [hHD.out] at hHd ⊢
  obtain ⟨MN, hMN⟩ : ∃ MN, Hid (min X.length 1 = MN) := ⟨_, Lib.hid rfl⟩
  rw [hMN.out]
  clear hR
  go_enter Tryz.func34, Tryz.ntmps34
  go_wp2_with fail
  refine HT.out.mono ?_
  rintro e w1 (⟨h, rfl, hR1, hK1⟩ | ⟨h, rfl, hR1, hK1⟩)
  · have HMIN : Hid (MN = 0 + 1) := Lib.hid (by rw [← hMN.out]; omega)
    clear h HT
    have H3 := Lib.hid (three_any T dgB w1 (hE.kept hK1).dta (by omega))
    go_wp2_with fail
    refine H3.out.mono ?_
    rintro e w2 ⟨hB2, h3⟩
    have hE2 := (hE.kept hK1).below hB2
    have hR2 := hR1.below hB2
    have hK2 := hK1.trans (KeptR.of_below hB2)
    cases ht : threeP T dgB with
    | none =>
      rw [ht] at h3
      have h3' : e = .returned (.slice none 0 0) := h3
      subst h3'
      have hq := hHd.out
      rw [ht] at hq
      have HQ := Lib.hid hq
      clear hq ht hHd H3
      go_wp2_with fail
      go_ret3
      exact ⟨by rw [HQ.out]; rfl, by rw [HMIN.out]; exact hR2, hK2⟩
    | some ab =>
      obtain ⟨a, b⟩ := ab
      rw [ht] at h3
      obtain ⟨g, rfl, g1, g2⟩ := (h3 : ∃ g, e = .returned (.slice (some ⟨g, 1, none⟩) 2 2) ∧ w2.cell? ⟨g, 1, none⟩ = some (.string (bN a)) ∧ w2.cell? ⟨g, 2, none⟩ = some (.string (bN b)))
      have hq := hHd.out
      rw [ht] at hq
      have HQ := Lib.hid hq
      have gl := lt_of_cell g1
      have hgr : g ≠ rb := fun e => by
        subst e
        have := (show Blk w2 g _ _ from hR2).cell 0 _ rfl
        have h4 := (show Blk w2 g _ _ from hR2).cell 1 _ rfl
        rw [g1] at h4
        cases h4
      have hal := threeP_len ht
      have HI1 := Lib.hid (wint_any (bN a) 2 24 w2 (by rw [bN_size]; omega) hE2.dta.err)
      rw [show (bN a).data.toList = a from rfl] at HI1
      clear hq ht hHd H3
      go_wp2_with fail
      refine HI1.out.mono ?_
      rintro e w3 ⟨rfl, hB3⟩
      have hE3 := hE2.below hB3
      have g13 := (hB3.cell (p := ⟨g, 1, none⟩) gl).trans g1
      have g23 := (hB3.cell (p := ⟨g, 2, none⟩) gl).trans g2
      have gl3 := lt_of_cell g13
      have HI2 := Lib.hid (wint_any (bN b) 0 400 w3 (by rw [bN_size]; omega) hE3.dta.err)
      rw [show (bN b).data.toList = b from rfl] at HI2
      obtain ⟨v1, hv1⟩ : ∃ v, Hid ((intW a 2 24).1 = v) := ⟨_, Lib.hid rfl⟩
      obtain ⟨x1, hx1⟩ : ∃ v, Hid ((intW a 2 24).2 = v) := ⟨_, Lib.hid rfl⟩
      rw [hv1.out, hx1.out] at HQ
      rw [hv1.out, hx1.out]
      go_wp2_with fail
      refine HI2.out.mono ?_
      rintro e w4 ⟨rfl, hB4⟩
      obtain ⟨v2, hv2⟩ : ∃ v, Hid ((intW b 0 400).1 = v) := ⟨_, Lib.hid rfl⟩
      obtain ⟨x2, hx2⟩ : ∃ v, Hid ((intW b 0 400).2 = v) := ⟨_, Lib.hid rfl⟩
      rw [hv2.out, hx2.out] at HQ
      rw [hv2.out, hx2.out]
      have hK4 := (hK2.trans (KeptR.of_below hB3)).trans (KeptR.of_below hB4)
      have hR4 := (hR2.below hB3).below hB4
      by_cases y1 : x1 = 0 <;> by_cases y2 : x2 = 0
      all_goals
        have z1 : (x1 == 0) = decide (x1 = 0) := by by_cases h : x1 = 0 <;> simp [h]
        have z2 : (x2 == 0) = decide (x2 = 0) := by by_cases h : x2 = 0 <;> simp [h]
        simp only [y1, y2, decide_true, decide_false] at z1 z2
        have HY1 := Lib.hid y1
        have HY2 := Lib.hid y2
        clear y1 y2
        go_wp2_with fail
        go_ret3
        refine ⟨?_, by rw [HMIN.out]; exact hR4, hK4⟩
        rw [HQ.out]
        have y1 := HY1.out
        have y2 := HY2.out
        simp only [y1, y2, decide_true, decide_false, Bool.and_true, Bool.and_false, Bool.true_and, Bool.false_and]
        rfl
  · have HMIN : Hid (MN = 0) := Lib.hid (by rw [← hMN.out]; omega)
    have hT0 : T = [] := by rw [← hT.out]; have : X = [] := List.eq_nil_of_length_eq_zero h.symm; rw [this]; rfl
    rw [← hT0]
    clear h HT hT0
    have H3 := Lib.hid (three_any T dgB w1 (hE.kept hK1).dta (by omega))
    go_wp2_with fail
    refine H3.out.mono ?_
    rintro e w2 ⟨hB2, h3⟩
    have hE2 := (hE.kept hK1).below hB2
    have hR2 := hR1.below hB2
    have hK2 := hK1.trans (KeptR.of_below hB2)
    cases ht : threeP T dgB with
    | none =>
      rw [ht] at h3
      have h3' : e = .returned (.slice none 0 0) := h3
      subst h3'
      have hq := hHd.out
      rw [ht] at hq
      have HQ := Lib.hid hq
      clear hq ht hHd H3
      go_wp2_with fail
      go_ret3
      exact ⟨by rw [HQ.out]; rfl, by rw [HMIN.out]; exact hR2, hK2⟩
    | some ab =>
      obtain ⟨a, b⟩ := ab
      rw [ht] at h3
      obtain ⟨g, rfl, g1, g2⟩ := (h3 : ∃ g, e = .returned (.slice (some ⟨g, 1, none⟩) 2 2) ∧ w2.cell? ⟨g, 1, none⟩ = some (.string (bN a)) ∧ w2.cell? ⟨g, 2, none⟩ = some (.string (bN b)))
      have hq := hHd.out
      rw [ht] at hq
      have HQ := Lib.hid hq
      have gl := lt_of_cell g1
      have hgr : g ≠ rb := fun e => by
        subst e
        have := (show Blk w2 g _ _ from hR2).cell 0 _ rfl
        have h4 := (show Blk w2 g _ _ from hR2).cell 1 _ rfl
        rw [g1] at h4
        cases h4
      have hal := threeP_len ht
      have HI1 := Lib.hid (wint_any (bN a) 2 24 w2 (by rw [bN_size]; omega) hE2.dta.err)
      rw [show (bN a).data.toList = a from rfl] at HI1
      clear hq ht hHd H3
      go_wp2_with fail
      refine HI1.out.mono ?_
      rintro e w3 ⟨rfl, hB3⟩
      have hE3 := hE2.below hB3
      have g13 := (hB3.cell (p := ⟨g, 1, none⟩) gl).trans g1
      have g23 := (hB3.cell (p := ⟨g, 2, none⟩) gl).trans g2
      have gl3 := lt_of_cell g13
      have HI2 := Lib.hid (wint_any (bN b) 0 400 w3 (by rw [bN_size]; omega) hE3.dta.err)
      rw [show (bN b).data.toList = b from rfl] at HI2
      obtain ⟨v1, hv1⟩ : ∃ v, Hid ((intW a 2 24).1 = v) := ⟨_, Lib.hid rfl⟩
      obtain ⟨x1, hx1⟩ : ∃ v, Hid ((intW a 2 24).2 = v) := ⟨_, Lib.hid rfl⟩
      rw [hv1.out, hx1.out] at HQ
      rw [hv1.out, hx1.out]
      go_wp2_with fail
      refine HI2.out.mono ?_
      rintro e w4 ⟨rfl, hB4⟩
      obtain ⟨v2, hv2⟩ : ∃ v, Hid ((intW b 0 400).1 = v) := ⟨_, Lib.hid rfl⟩
      obtain ⟨x2, hx2⟩ : ∃ v, Hid ((intW b 0 400).2 = v) := ⟨_, Lib.hid rfl⟩
      rw [hv2.out, hx2.out] at HQ
      rw [hv2.out, hx2.out]
      have hK4 := (hK2.trans (KeptR.of_below hB3)).trans (KeptR.of_below hB4)
      have hR4 := (hR2.below hB3).below hB4
      by_cases y1 : x1 = 0 <;> by_cases y2 : x2 = 0
      all_goals
        have z1 : (x1 == 0) = decide (x1 = 0) := by by_cases h : x1 = 0 <;> simp [h]
        have z2 : (x2 == 0) = decide (x2 = 0) := by by_cases h : x2 = 0 <;> simp [h]
        simp only [y1, y2, decide_true, decide_false] at z1 z2
        have HY1 := Lib.hid y1
        have HY2 := Lib.hid y2
        clear y1 y2
        go_wp2_with fail
        go_ret3
        refine ⟨?_, by rw [HMIN.out]; exact hR4, hK4⟩
        rw [HQ.out]
        have y1 := HY1.out
        have y2 := HY2.out
        simp only [y1, y2, decide_true, decide_false, Bool.and_true, Bool.and_false, Bool.true_and, Bool.false_and]
        rfl
end Go.Proofs.YtoccplfnjammjaaGreatDoor
