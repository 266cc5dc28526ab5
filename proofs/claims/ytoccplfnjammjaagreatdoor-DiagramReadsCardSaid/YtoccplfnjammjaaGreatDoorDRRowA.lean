/- Merged: DRRow DRRow2. -/
import Derived.Test.YtoccplfnjammjaaGreatDoorDRLooks
set_option linter.unusedSimpArgs false
set_option linter.unusedVariables false
namespace Go.Proofs.YtoccplfnjammjaaGreatDoor
open Go Go.RowKit Tor

theorem u8_true {x c : UInt8} (h : x = c) : ((x.toNat : Int) == (c.toNat : Int)) = true := by rw [h]; simp
theorem u8_false {x c : UInt8} (h : x ≠ c) : ((x.toNat : Int) == (c.toNat : Int)) = false := by
  rw [beq_eq_false_iff_ne]
  intro e
  exact h (UInt8.toNat_inj.1 (by omega))
theorem idx_run (s : List UInt8) (i : Nat) (hi : i < s.length) (j : Int) (hj : j = i) (W : World) : (Instr.index 9 (.string (bN s)) (.int .i64 j)).run Tryz.prog W = .ok (.int .u8 ((s.getD i 0).toNat : Int)) W := by
  subst hj
  rw [run_index_string (P := Tryz.prog) (w := W) 9 (bN s) .i64 (i : Int) Tryz.underlying9]
  have h1 : (i : Int) < (bN s).size := by rw [bN_size]; omega
  rw [dif_pos ⟨by omega, h1⟩]
  have h4 : (bN s)[((i : Int)).toNat]'(by omega) = s.getD i 0 := by
    rw [List.getD_eq_getElem?_getD, List.getElem?_eq_getElem hi]; rfl
  rw [h4]
theorem work_ret1 {fn : Func} {p : Tmp} (h : fn.results = #[.cell p 44]) {R : Ending → World → Prop} {a : Act} {w : World} {g : Nat} {x y z : Value} (hp : a.tmps.getD p undef = .pointer (some ⟨g, 0, none⟩))
    (hb : Blk w g 44 #[x, y, z]) (hd : a.defers = []) (hR : R (.returned (.agg #[x, y, z])) w) : bodyPost Tryz.prog fn R .ret a w := by
  refine bodyPost_ret (v := .agg #[x, y, z]) ?_ hd hR
  have c0 := hb.cell 0 x rfl
  have c1 := hb.cell 1 y rfl
  have c2 := hb.cell 2 z rfl
  have hp' : a.tmps[p]?.getD undef = .pointer (some ⟨g, 0, none⟩) := by simpa using hp
  simp only [results, h]
  simp [Sem.run_bind, Result.andThen, hp']
  go_simp
set_option maxRecDepth 100000 in
theorem dwork_any (x : List UInt8) (q : Nat) (w : World) (hl : x.length ≤ 1000000) :
    Calls Tryz.prog 75 #[.string (bN x), .int .i64 q] w (Ret (.agg #[.int .i64 (workD x q).a, .int .i64 (workD x q).b, .string (workD x q).s]) w) := by
  have tx := bN_toList x
  have hB : ∀ u v z, Below w.heap.size w (w.alloc (.cells #[u, v, z] 44)) := fun u v z => (Below.refl _ _).alloc (Nat.le_refl _) _
  by_cases h1 : x = [115, 101, 119]
  · have z1 : (x == [115, 101, 119]) = true := by rw [h1]; rfl
    have hW : Hid (workD x q = ⟨2, q, bN []⟩) := Lib.hid (by unfold workD; rw [if_pos h1])
    have H1 := Lib.hid h1
    clear h1
    go_enter Tryz.func75, Tryz.ntmps75
    go_wp2_with fail
    refine work_ret1 rfl rfl (g := w.heap.size) (Blk.new w _ _) rfl ?_
    rw [hW.out]
    exact ⟨rfl, hB _ _ _⟩
  · have z1 : (x == [115, 101, 119]) = false := beq_eq_false_iff_ne.2 h1
    by_cases h2 : x = [45]
    · have z2 : (x == [45]) = true := by rw [h2]; rfl
      have hW : Hid (workD x q = ⟨1, q, bN []⟩) := Lib.hid (by unfold workD; rw [if_neg h1, if_pos h2])
      have H1 := Lib.hid h1
      have H2 := Lib.hid h2
      clear h1 h2
      go_enter Tryz.func75, Tryz.ntmps75
      go_wp2_with fail
      refine work_ret1 rfl rfl (g := w.heap.size) (Blk.new w _ _) rfl ?_
      rw [hW.out]
      exact ⟨rfl, hB _ _ _⟩
    · have z2 : (x == [45]) = false := beq_eq_false_iff_ne.2 h2
      have hW : Hid (workD x q = ⟨1, q, bN x⟩) := Lib.hid (by unfold workD; rw [if_neg h1, if_neg h2])
      have H1 := Lib.hid h1
      have H2 := Lib.hid h2
      clear h1 h2
      go_enter Tryz.func75, Tryz.ntmps75
      go_wp2_with fail
      refine work_ret1 rfl rfl (g := w.heap.size) (Blk.new w _ _) rfl ?_
      rw [hW.out]
      exact ⟨rfl, hB _ _ _⟩
/-- where a letter stands among the first ones -/
theorem idxB_find (L : List UInt8) (c : UInt8) : Lib.indexByte L c = match L.findIdx? (· == c) with | some n => (n : Int) | none => -1 := by
  induction L with
  | nil => rfl
  | cons b r ih =>
    rw [Lib.indexByte, List.findIdx?_cons]
    by_cases h : b == c
    · rw [if_pos h]; simp [h]
    · rw [if_neg h, ih]
      have h' : (b == c) = false := by simpa using h
      rw [h']
      cases hf : r.findIdx? (· == c) with
      | none => simp
      | some n =>
        have : ((n : Int) == -1) = false := by rw [beq_eq_false_iff_ne]; omega
        simp [this]
theorem rowW_fuel (p : Nat) (K : List (List UInt8)) (s : List UInt8) : ∀ (k k' q : Nat) (acc : List Tri), p - q ≤ k → p - q ≤ k' → rowW p K s k q acc = rowW p K s k' q acc := by
  intro k
  induction k with
  | zero =>
    intro k' q acc h h'
    cases k' with
    | zero => rfl
    | succ m => rw [rowW, rowW, if_pos (by omega)]
  | succ k ih =>
    intro k' q acc h h'
    cases k' with
    | zero => rw [rowW, rowW, if_pos (by omega)]
    | succ m =>
      rw [rowW, rowW]
      by_cases h1 : p ≤ q
      · rw [if_pos h1, if_pos h1]
      · rw [if_neg h1, if_neg h1]
        split
        · rfl
        · split
          · exact ih m (q + 1) acc (by omega) (by omega)
          · split
            · rfl
            · split
              · rfl
              · exact ih m (q + 2) _ (by omega) (by omega)
/-- one place of a row -/
def rowO (p : Nat) (K : List (List UInt8)) (s : List UInt8) (q : Nat) (acc : List Tri) : Option (List Tri) := rowW p K s (p - q) q acc
theorem rowO_end {p : Nat} {K : List (List UInt8)} {s : List UInt8} {q : Nat} {acc : List Tri} (h : p ≤ q) : rowO p K s q acc = some acc := by
  unfold rowO
  rw [rowW_fuel p K s (p - q) 1 q acc (Nat.le_refl _) (by omega), rowW, if_pos h]
theorem rowO_step {p : Nat} {K : List (List UInt8)} {s : List UInt8} {q : Nat} {acc : List Tri} (h : q < p) : rowO p K s q acc =
    if 0 < q ∧ s.getD (2 * q - 1) 0 ≠ 32 then none else
    if s.getD (2 * q) 0 = 124 then rowO p K s (q + 1) acc else
    if s.getD (2 * q) 0 ≠ 40 ∨ q + 1 = p ∨ s.getD (2 * q + 2) 0 ≠ 41 then none else
    match (lettersL.take K.length).findIdx? (· == s.getD (2 * q + 1) 0) with
    | none => none
    | some n => rowO p K s (q + 2) (acc ++ [workD (K.getD n []) q]) := by
  unfold rowO
  have e : p - q = (p - q - 1) + 1 := by omega
  rw [e, rowW, if_neg (by omega)]
  split
  · rfl
  · split
    · exact rowW_fuel p K s _ _ _ _ (by omega) (by omega)
    · split
      · rfl
      · cases hf : (lettersL.take K.length).findIdx? (· == s.getD (2 * q + 1) 0) with
        | none => rfl
        | some n => exact rowW_fuel p K s _ _ _ _ (by omega) (by omega)
theorem rowP_eq {p : Nat} {K : List (List UInt8)} {s : List UInt8} (h : s.length = 2 * p - 1) : rowP p K s = rowO p K s 0 [] := by unfold rowP rowO; rw [if_pos h]; rfl
end Go.Proofs.YtoccplfnjammjaaGreatDoor

namespace Go.Proofs.YtoccplfnjammjaaGreatDoor
open Go Go.RowKit Tor

theorem letters_pre (n : Nat) (hn : n ≤ 52) (W : World) : (Instr.slice 9 (.string (⟨#[65, 66, 67, 68, 69, 70, 71, 72, 73, 74, 75, 76, 77, 78, 79, 80, 81, 82, 83, 84, 85, 86, 87, 88, 89, 90, 97, 98, 99, 100, 101, 102, 103, 104, 105, 106, 107, 108, 109, 110, 111, 112, 113, 114, 115, 116, 117, 118, 119, 120, 121, 122]⟩ : ByteArray)) none (some (.int .i64 (n : Int))) none).run Tryz.prog W = .ok (.string (bN (lettersL.take n))) W := by
  rw [← letters_bN]
  have := run_slice_string (P := Tryz.prog) W 9 (bN lettersL) .i64 .i64 0 (n : Int) Tryz.underlying9 (by omega) (by omega) (by rw [bN_size, letters_len]; omega)
  have he : (bN lettersL).extract 0 n = bN (lettersL.take n) := by
    refine ByteArray.ext (Array.ext' ?_)
    rw [ByteArray.data_extract]
    simp only [bN, Array.toList_extract, List.extract_eq_take_drop]
    rfl
  rw [show (0 : Int).toNat = 0 from rfl, Int.toNat_natCast, he] at this
  exact this
/-- what row returns -/
def RwRet (w : World) (rb : Nat) (AX : Option Addr) (cX : Nat) (X : List (List UInt8)) (n : Nat) (r : Option (List Tri)) (e : Ending) (w' : World) : Prop :=
  RdrAt w' rb AX cX X (n + 1) ∧ KeptR rb w w' ∧ match r with
  | none => e = .returned (.tuple #[.slice none 0 0, .bool false])
  | some d => ∃ v, e = .returned (.tuple #[v, .bool true]) ∧ Own 3 Tri.enc w' w.heap.size 44 v d
set_option maxRecDepth 100000 in
set_option maxHeartbeats 8000000 in
theorem rrow_any (w0 : World) (rb : Nat) (AX : Option Addr) (cX : Nat) (X : List (List UInt8)) (n : Nat) (w : World) (hR : RdrAt w rb AX cX X n) (hE : RdE w0 w rb AX X) (hl : X.length ≤ 100000) (hn : n < X.length) (hx : ∀ s ∈ X, s.length ≤ 1000000)
    (p : Nat) (h2 : 2 ≤ p) (h24 : p ≤ 24) (AK : Option Addr) (K : List (List UInt8)) (cK HK : Nat) (hK : Rd 1 tenc w HK AK K) (hHK : HK ≤ w.heap.size) (hKr : ∀ a, AK = some a → a.block ≠ rb) (hK52 : K.length ≤ 52) (hKl : ∀ x ∈ K, x.length ≤ 1000000) :
    Calls Tryz.prog 36 #[.pointer (some ⟨rb, 0, none⟩), .int .i64 p, .slice AK K.length cK] w (RwRet w rb AX cX X n (rowP p K (X.getD n []))) := by
  obtain ⟨i0, hi0, hz0', hz1', hz2'⟩ := info_parts infoWork
  have HT := Lib.hid (take_any rb AX cX X n w w0.heap.size hR hE.rd hE.le (by omega) (by omega))
  have hgd : X.getD n [] = X[n] := by rw [List.getD_eq_getElem?_getD, List.getElem?_eq_getElem hn]; rfl
  have hsl := hx X[n] (List.getElem_mem hn)
  rw [← hgd] at hsl
  clear hx hgd
  obtain ⟨s, hs⟩ : ∃ s, Hid (X.getD n [] = s) := ⟨_, Lib.hid rfl⟩
  rw [hs.out] at hsl HT ⊢
  have HKL := Lib.hid hKl
  clear hKl
  have hPE : Hid (rowP p K s = if s.length = 2 * p - 1 then rowO p K s 0 [] else none) := Lib.hid (by by_cases h : s.length = 2 * p - 1; rw [if_pos h, rowP_eq h]; rw [if_neg h]; unfold rowP; rw [if_neg h])
  obtain ⟨RP, hRP⟩ : ∃ RP, Hid (rowP p K s = RP) := ⟨_, Lib.hid rfl⟩
  rw [hRP.out] at hPE ⊢
  have e1 : IntKind.i64.wrap (2 * (p : Int)) = 2 * (p : Int) := IntWalk.i64_in _ (by omega)
  have e2 : IntKind.i64.wrap (2 * (p : Int) - 1) = 2 * (p : Int) - 1 := IntWalk.i64_in _ (by omega)
  have zs := bN_size s
  go_enter Tryz.func36, Tryz.ntmps36
  go_wp2_with fail
  refine HT.out.mono ?_
  rintro e w1 (⟨_, rfl, hR1, hK1⟩ | ⟨h, _⟩)
  rotate_left
  · omega
  have hE1 := hE.kept hK1
  have hz1 := hK1.size
  have hKx : Rd 1 tenc w1 HK AK K := fun hne => by
    obtain ⟨b, o, e, hb, hc⟩ := hK hne
    refine ⟨b, o, e, hb, fun k x hkx j u hu => (Same.cell hK1 (p := ⟨b, o + k * 1 + j, none⟩) ⟨by show b < _; omega, hKr ⟨b, o, none⟩ e⟩).trans (hc k x hkx j u hu)⟩
  by_cases hlen : s.length = 2 * p - 1
  · have hq := hPE.out
    rw [if_pos hlen] at hq
    have HP := Lib.hid hq
    clear hq hPE
    have z1 : ((s.length : Int) == 2 * (p : Int) - 1) = true := by simp; omega
    have z1n : ((s.length : Int) != 2 * (p : Int) - 1) = false := by rw [bne_eq_false_iff_eq]; omega
    have HLEN := Lib.hid hlen
    clear hlen HT e1 e2
    go_wp2_with fail
    go_loopw [6, 7, 10, 11] (fun _ _ v av wr => ∃ (q A : Nat) (acc : List Tri), Hid (A = 2 * q) ∧ A ≤ 2 * p + 2 ∧ av = .int .i64 A ∧ acc.length ≤ q ∧ Hid (RP = rowO p K s q acc) ∧ Own 3 Tri.enc wr w1.heap.size 44 v acc ∧ Below w1.heap.size w1 wr) (fun _ _ _ av _ => 2 * p - (intOf av).toNat)
    case atStart => exact ⟨0, 0, [], Lib.hid rfl, by omega, rfl, Nat.le_refl _, HP, Own.nil _ _ _, Below.refl _ _⟩
    case round =>
      obtain ⟨q, A, acc, hA, hA2, rfl, hacc, hrow, hown, hB⟩ := hrel
      have hz := hB.size
      have hAq := hA.out
      have hln := HLEN.out
      obtain ⟨Av, cv, rfl, hcv, _⟩ := Own.rd tri_len hown
      by_cases hlt : q < p
      · have i0' : (A : Int) < (s.length : Int) := by omega
        have hst := hrow.out
        rw [rowO_step hlt] at hst
        have x0 := idx_run s A (by omega) (A : Int) rfl
        have hi0q : 2 * q = A := by omega
        rw [hi0q] at hst
        obtain ⟨c0, hc0⟩ : ∃ c, Hid (s.getD A 0 = c) := ⟨_, Lib.hid rfl⟩
        rw [hc0.out] at hst x0
        obtain ⟨cp, hcp⟩ : ∃ c, Hid (s.getD (A - 1) 0 = c) := ⟨_, Lib.hid rfl⟩
        rw [hcp.out] at hst
        have e4 : IntKind.i64.wrap ((A : Int) + 2) = (A : Int) + 2 := IntWalk.i64_in _ (by omega)
        have e5 : IntKind.i64.wrap ((A : Int) + 1) = (A : Int) + 1 := IntWalk.i64_in _ (by omega)
        have HST := Lib.hid hst
        clear hst
        by_cases hsep : 0 < q ∧ cp ≠ 32
        · have hf := HST.out
          rw [if_pos hsep] at hf
          have HF := Lib.hid hf
          clear hf
          obtain ⟨hq0, hc32⟩ := hsep
          have xp := idx_run s (A - 1) (by omega) ((A : Int) - 1) (by omega)
          rw [hcp.out] at xp
          have z2 : ((cp.toNat : Int) == 32) = false := u8_false (c := 32) hc32
          have z2p : ¬ (cp.toNat : Int) = 32 := beq_eq_false_iff_ne.1 z2
          have z2n : ((cp.toNat : Int) != 32) = true := bne_iff_ne.2 z2p
          have i3 : (0 : Int) < (A : Int) := by omega
          clear hq0 hc32 hAq hi0q hlt hln
          go_wp2_with fail
          go_ret2
          refine ⟨hR1.below hB, hK1.trans (KeptR.of_below hB), ?_⟩
          rw [HF.out]; rfl
        · have hf := HST.out
          rw [if_neg hsep] at hf
          have HF := Lib.hid hf
          clear hf
          have hpre : Hid ((A = 0) ∨ (0 < A ∧ cp = 32)) := Lib.hid (by
            by_cases h0 : q = 0
            · left; omega
            · right; exact ⟨by omega, Classical.byContradiction fun h => hsep ⟨by omega, h⟩⟩)
          clear hsep
          have GO : Hid (∀ (xp : ∀ W, (Instr.index 9 (.string (bN s)) (.int .i64 ((A : Int) - 1))).run Tryz.prog W = .ok (.int .u8 (cp.toNat : Int)) W), True) := Lib.hid (fun _ => trivial)
          clear GO
          by_cases hA0 : A = 0
          · have i3 : ¬ (0 : Int) < (A : Int) := by omega
            have HA0 := Lib.hid hA0
            clear hA0
            by_cases hw : c0 = 124
            · have hf := HF.out
              rw [if_pos hw] at hf
              have HF2 := Lib.hid hf
              have z3 : ((c0.toNat : Int) == 124) = true := u8_true (c := 124) hw
              have z3p : (c0.toNat : Int) = 124 := by rw [hw]; rfl
              have z3n : ((c0.toNat : Int) != 124) = false := by rw [hw]; rfl
              have HW := Lib.hid hw
              clear hf hw hAq hi0q hln
              go_wp2_with fail
              go_roundw
              case rel => exact ⟨q + 1, A + 2, acc, Lib.hid (by rw [hA.out]; omega), by have := hA.out; omega, by go_num, by omega, HF2, hown, hB⟩
              case measure => have := hA.out; simp [intOf]; omega
            · have hf := HF.out
              rw [if_neg hw] at hf
              have HF2 := Lib.hid hf
              have z3 : ((c0.toNat : Int) == 124) = false := u8_false (c := 124) hw
              have z3p : ¬ (c0.toNat : Int) = 124 := beq_eq_false_iff_ne.1 z3
              have z3n : ((c0.toNat : Int) != 124) = true := bne_iff_ne.2 z3p
              clear hf hw HF
              by_cases hp : c0 = 40
              · have z4 : ((c0.toNat : Int) == 40) = true := u8_true (c := 40) hp
                have z4p : (c0.toNat : Int) = 40 := by rw [hp]; rfl
                have z4n : ((c0.toNat : Int) != 40) = false := by rw [hp]; rfl
                by_cases hl1 : q + 1 = p
                · have hf := HF2.out
                  rw [if_pos (.inr (.inl hl1))] at hf
                  have HF3 := Lib.hid hf
                  have i6 : (s.length : Int) ≤ (A : Int) + 2 := by omega
                  have HP0 := Lib.hid hp
                  clear hf hp hl1 hAq hi0q hlt hln
                  go_wp2_with fail
                  go_ret2
                  refine ⟨hR1.below hB, hK1.trans (KeptR.of_below hB), ?_⟩
                  rw [HF3.out]; rfl
                · have i6 : ¬ (s.length : Int) ≤ (A : Int) + 2 := by omega
                  have x2 := idx_run s (A + 2) (by omega) ((A : Int) + 2) (by omega)
                  obtain ⟨c2, hc2⟩ : ∃ c, Hid (s.getD (A + 2) 0 = c) := ⟨_, Lib.hid rfl⟩
                  rw [hc2.out] at x2
                  have hf := HF2.out
                  rw [hc2.out] at hf
                  by_cases hr : c2 = 41
                  · have hcond : ¬ (c0 ≠ 40 ∨ q + 1 = p ∨ c2 ≠ 41) := by
                      rintro (h | h | h)
                      · exact h hp
                      · exact hl1 h
                      · exact h hr
                    rw [if_neg hcond] at hf
                    clear hcond
                    have z5 : ((c2.toNat : Int) == 41) = true := u8_true (c := 41) hr
                    have z5p : (c2.toNat : Int) = 41 := by rw [hr]; rfl
                    have z5n : ((c2.toNat : Int) != 41) = false := by rw [hr]; rfl
                    have x1 := idx_run s (A + 1) (by omega) ((A : Int) + 1) (by omega)
                    obtain ⟨c1, hc1⟩ : ∃ c, Hid (s.getD (A + 1) 0 = c) := ⟨_, Lib.hid rfl⟩
                    rw [hc1.out] at x1 hf
                    have HL := letters_pre K.length hK52
                    have HIB := Lib.hid (fun W => Tryz.strings_IndexByte (bN (lettersL.take K.length)) (c1.toNat : Int) W)
                    rw [show Lib.indexByte (bN (lettersL.take K.length)).data.toList ((c1.toNat : Int)).toNat.toUInt8 = Lib.indexByte (lettersL.take K.length) c1 from by rw [Int.toNat_natCast]; congr 1; simp, idxB_find] at HIB
                    have HP0 := Lib.hid hp
                    have HR0 := Lib.hid hr
                    clear hp hr
                    have HBX := Lib.hid (fun (g : Ex wr) => calls_ex (P := Tryz.prog) ((HIB.out g.w).mono (fun e w' h => (⟨h.1, by rw [h.2]; exact Below.refl _ _⟩ : Ret (.int .i64 (match (lettersL.take K.length).findIdx? (· == c1) with | some n => (n : Int) | none => -1)) g.w e w'))))
                    clear HIB
                    cases hfi : (lettersL.take K.length).findIdx? (· == c1) with
                    | none =>
                      rw [hfi] at hf HBX
                      have HF3 := Lib.hid hf
                      simp only [] at HBX
                      clear hf hl1 hAq hi0q hlt hln hfi
                      go_wp2_with fail
                      refine wp_region_ex (by kernel_rfl) (by kernel_rfl) ?_
                      repeat (go_big_quiet_step ((go_at_call 74; refine (HBX.out _).mono ?_; rintro e w' ⟨rfl, hg⟩; exact ⟨rfl, hg⟩)))
                      refine wpQuiet_nil ?_
                      intro _ hw'
                      obtain ⟨g, hw''⟩ := hw'
                      subst hw''
                      have hq := g.h
                      go_wp2_with fail
                      go_ret2
                      refine ⟨(hR1.below hB).below hq, (hK1.trans (KeptR.of_below hB)).trans (KeptR.of_below hq), ?_⟩
                      rw [HF3.out]; rfl
                    | some ni =>
                      rw [hfi] at hf HBX
                      have HF3 := Lib.hid hf
                      simp only [] at HBX
                      clear hf
                      have hni : ni < K.length := by
                        have := (List.findIdx?_eq_some_iff_getElem.1 hfi).1
                        rw [List.length_take] at this; omega
                      clear hfi
                      have hA4 : A + 4 ≤ 2 * p + 2 := by omega
                      clear hl1 hAq hi0q hlt hln
                      go_wp2_with fail
                      refine wp_region_ex (by kernel_rfl) (by kernel_rfl) ?_
                      repeat (go_big_quiet_step ((go_at_call 74; refine (HBX.out _).mono ?_; rintro e w' ⟨rfl, hg⟩; exact ⟨rfl, hg⟩)))
                      refine wpQuiet_nil ?_
                      intro _ hw'
                      obtain ⟨g, hw''⟩ := hw'
                      subst hw''
                      have hq := g.h
                      have hKw := hKx.below' (hB.trans (hq.mono hz)) (by omega)
                      obtain ⟨kb, ko, hAK, hkb, hk0⟩ := hKw.txt hni
                      subst hAK
                      have hkl := lt_of_cell hk0
                      have hgK : K.getD ni [] = K[ni] := by rw [List.getD_eq_getElem?_getD, List.getElem?_eq_getElem hni]; rfl
                      have hxl := HKL.out K[ni] (List.getElem_mem hni)
                      rw [← hgK] at hk0 hxl
                      obtain ⟨x, hx⟩ : ∃ x, Hid (K.getD ni [] = x) := ⟨_, Lib.hid rfl⟩
                      rw [hx.out] at hk0 HF3 hxl
                      clear hgK
                      have j1 : (ni : Int) < (K.length : Int) := by omega
                      have j2 : (0 : Int) ≤ (ni : Int) := by omega
                      have j3 : ¬ (ni : Int) < 0 := by omega
                      have e7 : (A : Int) / 2 = (q : Int) := by have := hA.out; omega
                      have e8 : IntKind.i64.wrap ((A : Int) + 2 + 2) = (A : Int) + 2 + 2 := IntWalk.i64_in _ (by omega)
                      have hog := hown.below hq
                      have hBg := hB.trans (hq.mono hz)
                      have hzg := hBg.size
                      have hacc2 : acc.length ≤ 100 := by have := hA.out; omega
                      obtain ⟨y, hy⟩ : ∃ y, Hid (workD x q = y) := ⟨_, Lib.hid rfl⟩
                      have HDW := Lib.hid (dwork_any x q g.w hxl)
                      rw [hy.out] at HDW HF3
                      go_wp2_with (first
                        | (go_at_call 75; refine HDW.out.mono ?_; rintro e w4 ⟨rfl, hB4⟩
                           have ho4 := hog.below hB4
                           have hB4' := hBg.trans (hB4.mono hzg)
                           have hz4 := hB4'.size)
                        | (at_builtin; refine wpList_append_tri rfl (.tmp 77) (.tmp 85) _ rfl w1.heap.size _ i0 _ Tryz.underlying23 hi0 hz0' hz1' hz2' rfl (.slice Av acc.length cv) acc rfl (ho4.alloc _) w4.heap.size y rfl (World.cell?_alloc_new _ _ _ 0) (World.cell?_alloc_new _ _ _ 1) (World.cell?_alloc_new _ _ _ 2) (by omega) (by simp; omega) ?_; intro v6 w6 ho6 hg6)
                        | fail)
                      go_roundw
                      case rel =>
                        have hB6 : Below w1.heap.size w1 w6 := (ho4.alloc (.cells #[.int .i64 y.a, .int .i64 y.b, .string y.s] 44)).grown (hB4'.alloc hz4 (.cells #[.int .i64 y.a, .int .i64 y.b, .string y.s] 44)) hg6 (by simp; omega)
                        exact ⟨q + 2, A + 4, acc ++ [y], Lib.hid (by rw [hA.out]; omega), hA4, by go_num, by simp; omega, HF3, ho6, hB6⟩
                      case measure => have := hA.out; simp [intOf]; omega
                  · rw [if_pos (.inr (.inr hr))] at hf
                    have HF3 := Lib.hid hf
                    have z5 : ((c2.toNat : Int) == 41) = false := u8_false (c := 41) hr
                    have z5p : ¬ (c2.toNat : Int) = 41 := beq_eq_false_iff_ne.1 z5
                    have z5n : ((c2.toNat : Int) != 41) = true := bne_iff_ne.2 z5p
                    have HP0 := Lib.hid hp
                    clear hf hp hr hl1 hAq hi0q hlt hln
                    go_wp2_with fail
                    go_ret2
                    refine ⟨hR1.below hB, hK1.trans (KeptR.of_below hB), ?_⟩
                    rw [HF3.out]; rfl
              · have hf := HF2.out
                rw [if_pos (.inl hp)] at hf
                have HF3 := Lib.hid hf
                have z4 : ((c0.toNat : Int) == 40) = false := u8_false (c := 40) hp
                have z4p : ¬ (c0.toNat : Int) = 40 := beq_eq_false_iff_ne.1 z4
                have z4n : ((c0.toNat : Int) != 40) = true := bne_iff_ne.2 z4p
                clear hf hp hAq hi0q hlt hln
                go_wp2_with fail
                go_ret2
                refine ⟨hR1.below hB, hK1.trans (KeptR.of_below hB), ?_⟩
                rw [HF3.out]; rfl
          · have i3 : (0 : Int) < (A : Int) := by omega
            have hc32 : cp = 32 := by rcases hpre.out with h | h; exact absurd h hA0; exact h.2
            have xp := idx_run s (A - 1) (by omega) ((A : Int) - 1) (by omega)
            rw [hcp.out] at xp
            have z2 : ((cp.toNat : Int) == 32) = true := u8_true (c := 32) hc32
            have z2p : (cp.toNat : Int) = 32 := by rw [hc32]; rfl
            have z2n : ((cp.toNat : Int) != 32) = false := by rw [hc32]; rfl
            clear hc32
            have HA0 := Lib.hid hA0
            clear hA0
            by_cases hw : c0 = 124
            · have hf := HF.out
              rw [if_pos hw] at hf
              have HF2 := Lib.hid hf
              have z3 : ((c0.toNat : Int) == 124) = true := u8_true (c := 124) hw
              have z3p : (c0.toNat : Int) = 124 := by rw [hw]; rfl
              have z3n : ((c0.toNat : Int) != 124) = false := by rw [hw]; rfl
              have HW := Lib.hid hw
              clear hf hw hAq hi0q hln
              go_wp2_with fail
              go_roundw
              case rel => exact ⟨q + 1, A + 2, acc, Lib.hid (by rw [hA.out]; omega), by have := hA.out; omega, by go_num, by omega, HF2, hown, hB⟩
              case measure => have := hA.out; simp [intOf]; omega
            · have hf := HF.out
              rw [if_neg hw] at hf
              have HF2 := Lib.hid hf
              have z3 : ((c0.toNat : Int) == 124) = false := u8_false (c := 124) hw
              have z3p : ¬ (c0.toNat : Int) = 124 := beq_eq_false_iff_ne.1 z3
              have z3n : ((c0.toNat : Int) != 124) = true := bne_iff_ne.2 z3p
              clear hf hw HF
              by_cases hp : c0 = 40
              · have z4 : ((c0.toNat : Int) == 40) = true := u8_true (c := 40) hp
                have z4p : (c0.toNat : Int) = 40 := by rw [hp]; rfl
                have z4n : ((c0.toNat : Int) != 40) = false := by rw [hp]; rfl
                by_cases hl1 : q + 1 = p
                · have hf := HF2.out
                  rw [if_pos (.inr (.inl hl1))] at hf
                  have HF3 := Lib.hid hf
                  have i6 : (s.length : Int) ≤ (A : Int) + 2 := by omega
                  have HP0 := Lib.hid hp
                  clear hf hp hl1 hAq hi0q hlt hln
                  go_wp2_with fail
                  go_ret2
                  refine ⟨hR1.below hB, hK1.trans (KeptR.of_below hB), ?_⟩
                  rw [HF3.out]; rfl
                · have i6 : ¬ (s.length : Int) ≤ (A : Int) + 2 := by omega
                  have x2 := idx_run s (A + 2) (by omega) ((A : Int) + 2) (by omega)
                  obtain ⟨c2, hc2⟩ : ∃ c, Hid (s.getD (A + 2) 0 = c) := ⟨_, Lib.hid rfl⟩
                  rw [hc2.out] at x2
                  have hf := HF2.out
                  rw [hc2.out] at hf
                  by_cases hr : c2 = 41
                  · have hcond : ¬ (c0 ≠ 40 ∨ q + 1 = p ∨ c2 ≠ 41) := by
                      rintro (h | h | h)
                      · exact h hp
                      · exact hl1 h
                      · exact h hr
                    rw [if_neg hcond] at hf
                    clear hcond
                    have z5 : ((c2.toNat : Int) == 41) = true := u8_true (c := 41) hr
                    have z5p : (c2.toNat : Int) = 41 := by rw [hr]; rfl
                    have z5n : ((c2.toNat : Int) != 41) = false := by rw [hr]; rfl
                    have x1 := idx_run s (A + 1) (by omega) ((A : Int) + 1) (by omega)
                    obtain ⟨c1, hc1⟩ : ∃ c, Hid (s.getD (A + 1) 0 = c) := ⟨_, Lib.hid rfl⟩
                    rw [hc1.out] at x1 hf
                    have HL := letters_pre K.length hK52
                    have HIB := Lib.hid (fun W => Tryz.strings_IndexByte (bN (lettersL.take K.length)) (c1.toNat : Int) W)
                    rw [show Lib.indexByte (bN (lettersL.take K.length)).data.toList ((c1.toNat : Int)).toNat.toUInt8 = Lib.indexByte (lettersL.take K.length) c1 from by rw [Int.toNat_natCast]; congr 1; simp, idxB_find] at HIB
                    have HP0 := Lib.hid hp
                    have HR0 := Lib.hid hr
                    clear hp hr
                    have HBX := Lib.hid (fun (g : Ex wr) => calls_ex (P := Tryz.prog) ((HIB.out g.w).mono (fun e w' h => (⟨h.1, by rw [h.2]; exact Below.refl _ _⟩ : Ret (.int .i64 (match (lettersL.take K.length).findIdx? (· == c1) with | some n => (n : Int) | none => -1)) g.w e w'))))
                    clear HIB
                    cases hfi : (lettersL.take K.length).findIdx? (· == c1) with
                    | none =>
                      rw [hfi] at hf HBX
                      have HF3 := Lib.hid hf
                      simp only [] at HBX
                      clear hf hl1 hAq hi0q hlt hln hfi
                      go_wp2_with fail
                      refine wp_region_ex (by kernel_rfl) (by kernel_rfl) ?_
                      repeat (go_big_quiet_step ((go_at_call 74; refine (HBX.out _).mono ?_; rintro e w' ⟨rfl, hg⟩; exact ⟨rfl, hg⟩)))
                      refine wpQuiet_nil ?_
                      intro _ hw'
                      obtain ⟨g, hw''⟩ := hw'
                      subst hw''
                      have hq := g.h
                      go_wp2_with fail
                      go_ret2
                      refine ⟨(hR1.below hB).below hq, (hK1.trans (KeptR.of_below hB)).trans (KeptR.of_below hq), ?_⟩
                      rw [HF3.out]; rfl
                    | some ni =>
                      rw [hfi] at hf HBX
                      have HF3 := Lib.hid hf
                      simp only [] at HBX
                      clear hf
                      have hni : ni < K.length := by
                        have := (List.findIdx?_eq_some_iff_getElem.1 hfi).1
                        rw [List.length_take] at this; omega
                      clear hfi
                      have hA4 : A + 4 ≤ 2 * p + 2 := by omega
                      clear hl1 hAq hi0q hlt hln
                      go_wp2_with fail
                      refine wp_region_ex (by kernel_rfl) (by kernel_rfl) ?_
                      repeat (go_big_quiet_step ((go_at_call 74; refine (HBX.out _).mono ?_; rintro e w' ⟨rfl, hg⟩; exact ⟨rfl, hg⟩)))
                      refine wpQuiet_nil ?_
                      intro _ hw'
                      obtain ⟨g, hw''⟩ := hw'
                      subst hw''
                      have hq := g.h
                      have hKw := hKx.below' (hB.trans (hq.mono hz)) (by omega)
                      obtain ⟨kb, ko, hAK, hkb, hk0⟩ := hKw.txt hni
                      subst hAK
                      have hkl := lt_of_cell hk0
                      have hgK : K.getD ni [] = K[ni] := by rw [List.getD_eq_getElem?_getD, List.getElem?_eq_getElem hni]; rfl
                      have hxl := HKL.out K[ni] (List.getElem_mem hni)
                      rw [← hgK] at hk0 hxl
                      obtain ⟨x, hx⟩ : ∃ x, Hid (K.getD ni [] = x) := ⟨_, Lib.hid rfl⟩
                      rw [hx.out] at hk0 HF3 hxl
                      clear hgK
                      have j1 : (ni : Int) < (K.length : Int) := by omega
                      have j2 : (0 : Int) ≤ (ni : Int) := by omega
                      have j3 : ¬ (ni : Int) < 0 := by omega
                      have e7 : (A : Int) / 2 = (q : Int) := by have := hA.out; omega
                      have e8 : IntKind.i64.wrap ((A : Int) + 2 + 2) = (A : Int) + 2 + 2 := IntWalk.i64_in _ (by omega)
                      have hog := hown.below hq
                      have hBg := hB.trans (hq.mono hz)
                      have hzg := hBg.size
                      have hacc2 : acc.length ≤ 100 := by have := hA.out; omega
                      obtain ⟨y, hy⟩ : ∃ y, Hid (workD x q = y) := ⟨_, Lib.hid rfl⟩
                      have HDW := Lib.hid (dwork_any x q g.w hxl)
                      rw [hy.out] at HDW HF3
                      go_wp2_with (first
                        | (go_at_call 75; refine HDW.out.mono ?_; rintro e w4 ⟨rfl, hB4⟩
                           have ho4 := hog.below hB4
                           have hB4' := hBg.trans (hB4.mono hzg)
                           have hz4 := hB4'.size)
                        | (at_builtin; refine wpList_append_tri rfl (.tmp 77) (.tmp 85) _ rfl w1.heap.size _ i0 _ Tryz.underlying23 hi0 hz0' hz1' hz2' rfl (.slice Av acc.length cv) acc rfl (ho4.alloc _) w4.heap.size y rfl (World.cell?_alloc_new _ _ _ 0) (World.cell?_alloc_new _ _ _ 1) (World.cell?_alloc_new _ _ _ 2) (by omega) (by simp; omega) ?_; intro v6 w6 ho6 hg6)
                        | fail)
                      go_roundw
                      case rel =>
                        have hB6 : Below w1.heap.size w1 w6 := (ho4.alloc (.cells #[.int .i64 y.a, .int .i64 y.b, .string y.s] 44)).grown (hB4'.alloc hz4 (.cells #[.int .i64 y.a, .int .i64 y.b, .string y.s] 44)) hg6 (by simp; omega)
                        exact ⟨q + 2, A + 4, acc ++ [y], Lib.hid (by rw [hA.out]; omega), hA4, by go_num, by simp; omega, HF3, ho6, hB6⟩
                      case measure => have := hA.out; simp [intOf]; omega
                  · rw [if_pos (.inr (.inr hr))] at hf
                    have HF3 := Lib.hid hf
                    have z5 : ((c2.toNat : Int) == 41) = false := u8_false (c := 41) hr
                    have z5p : ¬ (c2.toNat : Int) = 41 := beq_eq_false_iff_ne.1 z5
                    have z5n : ((c2.toNat : Int) != 41) = true := bne_iff_ne.2 z5p
                    have HP0 := Lib.hid hp
                    clear hf hp hr hl1 hAq hi0q hlt hln
                    go_wp2_with fail
                    go_ret2
                    refine ⟨hR1.below hB, hK1.trans (KeptR.of_below hB), ?_⟩
                    rw [HF3.out]; rfl
              · have hf := HF2.out
                rw [if_pos (.inl hp)] at hf
                have HF3 := Lib.hid hf
                have z4 : ((c0.toNat : Int) == 40) = false := u8_false (c := 40) hp
                have z4p : ¬ (c0.toNat : Int) = 40 := beq_eq_false_iff_ne.1 z4
                have z4n : ((c0.toNat : Int) != 40) = true := bne_iff_ne.2 z4p
                clear hf hp hAq hi0q hlt hln
                go_wp2_with fail
                go_ret2
                refine ⟨hR1.below hB, hK1.trans (KeptR.of_below hB), ?_⟩
                rw [HF3.out]; rfl
      · have i0' : ¬ (A : Int) < (s.length : Int) := by omega
        have hf := hrow.out
        rw [rowO_end (by omega)] at hf
        have HF := Lib.hid hf
        clear hf hAq hlt hln
        go_wp2_with fail
        go_ret2
        refine ⟨hR1.below hB, hK1.trans (KeptR.of_below hB), ?_⟩
        rw [HF.out]
        exact ⟨_, rfl, hown.base hz1⟩
  · have hq := hPE.out
    rw [if_neg hlen] at hq
    have HP := Lib.hid hq
    clear hq hPE
    have z1 : ((s.length : Int) == 2 * (p : Int) - 1) = false := by rw [beq_eq_false_iff_ne]; omega
    have z1n : ((s.length : Int) != 2 * (p : Int) - 1) = true := by rw [bne_iff_ne]; omega
    clear hlen HT
    go_wp2_with fail
    go_ret2
    refine ⟨hR1, hK1, ?_⟩
    rw [HP.out]; rfl
end Go.Proofs.YtoccplfnjammjaaGreatDoor
