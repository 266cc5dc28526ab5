/- Merged: RDrawn RDrawn2. -/
import Derived.Test.YtoccplfnjammjaaGreatDoorDDrawA
set_option linter.unusedSimpArgs false
set_option linter.unusedVariables false
namespace Go.Proofs.YtoccplfnjammjaaGreatDoor
open Go Go.RowKit Tor

theorem rletter14_any (n : Nat) (hn : n < 52) (w : World) : Calls Tryz.prog 41 #[.int .i64 n] w fun e w' => e = .returned (.string (bN [letN n])) ∧ w' = w := by
  have hc := letter_cut n hn
  have e1 : IntKind.i64.wrap ((n : Int) + 1) = (n : Int) + 1 := IntWalk.i64_in _ (by omega)
  go_enter Tryz.func41, Tryz.ntmps41
  go_wp2_with fail
  go_ret
  exact ⟨rfl, rfl⟩
theorem bN_app (a b : List UInt8) : bN a ++ bN b = bN (a ++ b) := by
  apply ByteArray.ext
  rw [ByteArray.data_append]
  apply Array.toList_inj.1
  simp [bN]
/-- the work of a row that takes place p as its left one, as far as the k-th -/
def findP (l : List Tri) (r : List Nat) (p : Nat) : Option Nat := r.find? fun i => decide ((xAt l i).b = (p : Int))
/-- the work that is found last among the first k: -1 where there is none -/
def lastW (l : List Tri) (r : List Nat) (p : Nat) : Int := r.foldl (fun acc i => if (xAt l i).b = (p : Int) then (i : Int) else acc) (-1)
theorem lastW_snoc (l : List Tri) (r : List Nat) (p i : Nat) : lastW l (r ++ [i]) p = if (xAt l i).b = (p : Int) then (i : Int) else lastW l r p := by unfold lastW; rw [List.foldl_append]; rfl
theorem lastW_none {l : List Tri} {p : Nat} : ∀ {r : List Nat}, (∀ i ∈ r, (xAt l i).b ≠ (p : Int)) → lastW l r p = -1 := by
  intro r h
  unfold lastW
  have : ∀ (r : List Nat) (acc : Int), (∀ i ∈ r, (xAt l i).b ≠ (p : Int)) → r.foldl (fun acc i => if (xAt l i).b = (p : Int) then (i : Int) else acc) acc = acc := by
    intro r
    induction r with
    | nil => intro acc _; rfl
    | cons x t ih =>
      intro acc hx
      rw [List.foldl_cons, if_neg (hx x (by simp))]
      exact ih acc (fun i hi => hx i (by simp [hi]))
  exact this r _ h
theorem lastW_some {l : List Tri} {p i : Nat} : ∀ {r : List Nat}, Apart l r → i ∈ r → (xAt l i).b = (p : Int) → lastW l r p = (i : Int) := by
  intro r ha hi hb
  unfold lastW
  have : ∀ (r : List Nat) (acc : Int), (∀ k ∈ r, (xAt l k).b = (p : Int) → k = i) → (i ∈ r ∨ acc = (i : Int)) → r.foldl (fun acc i => if (xAt l i).b = (p : Int) then (i : Int) else acc) acc = (i : Int) := by
    intro r
    induction r with
    | nil => intro acc _ h; rcases h with h | h; cases h; exact h
    | cons x t ih =>
      intro acc hx h
      rw [List.foldl_cons]
      refine ih _ (fun k hk => hx k (by simp [hk])) ?_
      by_cases hxb : (xAt l x).b = (p : Int)
      · right; rw [if_pos hxb, hx x (by simp) hxb]
      · rw [if_neg hxb]
        rcases h with h | h
        · rcases List.mem_cons.1 h with h | h
          · subst h; exact absurd hb hxb
          · exact .inl h
        · exact .inr h
  refine this r _ (fun k hk hkb => ?_) (.inl hi)
  refine Classical.byContradiction fun hne => ?_
  have := ha i hi k hk (fun e => hne e.symm)
  omega
end Go.Proofs.YtoccplfnjammjaaGreatDoor

namespace Go.Proofs.YtoccplfnjammjaaGreatDoor
open Go Go.RowKit Tor

theorem cat_run (a b : ByteArray) (L : List UInt8) (e : a ++ b = bN L) (hs : a.size + b.size ≤ 1000000000) (W : World) : (binOp .add 9 (.string a) (.string b)).run Tryz.prog W = .ok (.string (bN L)) W := by
  have h1 : a.size + b.size ≤ 9223372036854775807 := by omega
  have h2 : ¬ 9223372036854775807 < a.size + b.size := by omega
  rw [← e]
  simp [go_sem, h1, h2]
set_option maxRecDepth 100000 in
set_option maxHeartbeats 4000000 in
theorem rdrawn_any (p : Nat) (A : Option Addr) (l : List Tri) (c : Nat) (Ar : Option Addr) (r : List Nat) (cr : Nat) (AL : Option Addr) (L : List (List UInt8)) (cL : Nat) (w : World) (H : Nat) (hr : RdT w H A l) (hrow : Rd 1 nenc w H Ar r) (hLr : Rd 1 tenc w H AL L) (hH : H ≤ w.heap.size)
    (hri : ∀ i ∈ r, i < l.length) (hap : Apart l r) (hin : InP p l) (hlk : ∀ i ∈ r, hasB L (lookB (xAt l i)) = true) (h52 : L.length ≤ 52) (hl : l.length ≤ 400) (hrl : r.length ≤ 400) (h24 : p ≤ 24) :
    Calls Tryz.prog 60 #[.agg #[.int .i64 p, .slice A l.length c], .slice Ar r.length cr, .slice AL L.length cL] w (Ret (.string (bN (drawR p l L r))) w) := by
  have HRI := Lib.hid hri
  have HAP := Lib.hid hap
  have HIN := Lib.hid hin
  have HLK := Lib.hid hlk
  have hB0 : Below w.heap.size w (w.alloc (.cells #[.int .i64 p, .slice A l.length c] 25)) := (Below.refl _ _).alloc (Nat.le_refl _) _
  have kA0 : Blk (w.alloc (.cells #[.int .i64 p, .slice A l.length c] 25)) w.heap.size 25 #[.int .i64 p, .slice A l.length c] := Blk.new w _ _
  obtain ⟨TD, hTD⟩ : ∃ TD : Nat → List UInt8, Hid (∀ k, TD k = (List.range (2 * k - 1)).map (drawQ l L r)) := ⟨_, Lib.hid (fun k => rfl)⟩
  have HDR : Hid (drawR p l L r = TD p) := Lib.hid (by rw [hTD.out]; rfl)
  have HT0 : TD 0 = [] := by rw [hTD.out]; rfl
  have HTL : Hid (∀ k, (TD k).length = 2 * k - 1) := Lib.hid (fun k => by rw [hTD.out]; simp)
  clear hri hap hin hlk
  go_enter Tryz.func60, Tryz.ntmps60
  go_wp2_with fail
  have hz0 := hB0.size
  obtain ⟨w0, hw0⟩ : ∃ w0, w0 = w.alloc (.cells #[.int .i64 p, .slice A l.length c] 25) := ⟨_, rfl⟩
  rw [← hw0] at hB0 kA0 hz0 ⊢
  clear hw0
  go_loopw [7, 8] (fun tv pv wr => ∃ P0 : Nat, P0 ≤ p ∧ pv = .int .i64 P0 ∧ tv = .string (bN (TD P0)) ∧ Hid (∀ i ∈ r, (xAt l i).b + 1 ≠ (P0 : Int)) ∧ Below w0.heap.size w0 wr) (fun _ pv _ => p - (intOf pv).toNat)
  case atStart => exact ⟨0, Nat.zero_le _, rfl, by rw [HT0]; rfl, Lib.hid (fun i hi => by obtain ⟨t, _, ht⟩ := HIN.out i (HRI.out i hi); omega), Below.refl _ _⟩
  case round =>
    obtain ⟨P0, hP0, rfl, rfl, hnr, hB⟩ := hrel
    have hz := hB.size
    have kA := kA0.below' hB
    have a0 := kA.cell 0 _ rfl
    have al := kA.lt
    have hTl := HTL.out P0
    by_cases hlt : P0 < p
    · have i1 : (P0 : Int) < (p : Int) := by omega
      by_cases hzero : P0 = 0
      · subst hzero
        obtain ⟨T1, hT1⟩ : ∃ T1, Hid (TD 0 = T1) := ⟨_, Lib.hid rfl⟩
        have E1 : Hid (T1 = TD 0 ++ sepB 0) := Lib.hid (by rw [← hT1.out]; unfold sepB; simp)
        have hX1 : T1.length ≤ 100 := by rw [← hT1.out, HT0]; simp
        rw [hT1.out]
        go_wp2_with fail
        obtain ⟨wo, hwo⟩ : ∃ wo : World, wo = wr := ⟨_, rfl⟩
        obtain rfl := hwo
        go_loopw [9, 10] (fun wv iv wr => ∃ k : Nat, k ≤ r.length ∧ iv = .int .i64 k ∧ wv = .int .i64 (lastW l (r.take k) (0 : Nat)) ∧ Below wo.heap.size wo wr) (fun _ iv _ => r.length - (intOf iv).toNat)
        case atStart => exact ⟨0, Nat.zero_le _, rfl, rfl, Below.refl _ _⟩
        case round =>
          obtain ⟨k, hk, rfl, rfl, hB2⟩ := hrel
          have hz2 := hB2.size
          have hB3 := hB.trans (hB2.mono hz)
          have hBw := hB0.trans (hB3.mono hz0)
          have kA2 := kA0.below' hB3
          have a02 := kA2.cell 0 _ rfl
          have a12 := kA2.cell 1 _ rfl
          have al2 := kA2.lt
          by_cases hkl : k < r.length
          · obtain ⟨rb, ro, hAr, hrb, m0⟩ := (hrow.below' hBw hH).nat hkl
            subst hAr
            have hq1 := HRI.out r[k] (List.getElem_mem hkl)
            have hsn := lastW_snoc l (r.take k) (0 : Nat) r[k]
            rw [← take_snoc r k hkl, xAt_of hq1] at hsn
            have HSN := Lib.hid hsn
            clear hsn
            obtain ⟨b, o, hA, hb0, n0, n1, n2⟩ := (hr.below' hBw hH).tri hq1
            subst hA
            obtain ⟨bq, hbq⟩ : ∃ bq, Hid (l[r[k]].b = bq) := ⟨_, Lib.hid rfl⟩
            rw [hbq.out] at n1 HSN
            obtain ⟨q, hq⟩ : ∃ q, Hid (r[k] = q) := ⟨_, Lib.hid rfl⟩
            have hql : q < l.length := by rw [← hq.out]; exact hq1
            simp only [hq.out] at m0 n0 n1 n2 HSN
            obtain ⟨W0, hW0⟩ : ∃ W0, Hid (lastW l (r.take k) (0 : Nat) = W0) := ⟨_, Lib.hid rfl⟩
            rw [hW0.out] at HSN
            rw [hW0.out]
            have hbW := lt_of_cell n1
            have hrW := lt_of_cell m0
            have k0 : (0 : Int) ≤ (k : Int) := by omega
            have k1 : (k : Int) < (r.length : Int) := by omega
            have k2 : (0 : Int) ≤ (q : Int) := by omega
            have k3 : (q : Int) < (l.length : Int) := by omega
            by_cases he : bq = (((0 : Nat) : Nat) : Int)
            · have he' : (bq == (((0 : Nat) : Nat) : Int)) = true := beq_iff_eq.2 he
              have he2 : (bq == 0) = true := he'
              have HE := Lib.hid he
              clear he
              go_wp2_with fail
              go_quiet (fail)
              go_wp2_with fail
              go_roundw
              case rel => exact ⟨k + 1, by omega, by go_num, by rw [HSN.out, if_pos HE.out], hB2.drewN nq⟩
              case measure => simp [intOf]; omega
            · have he' : (bq == (((0 : Nat) : Nat) : Int)) = false := beq_eq_false_iff_ne.2 he
              have he2 : (bq == 0) = false := he'
              have HE := Lib.hid he
              clear he
              go_wp2_with fail
              go_quiet (fail)
              go_wp2_with fail
              go_roundw
              case rel => exact ⟨k + 1, by omega, by go_num, by rw [HSN.out, if_neg HE.out], hB2.drewN nq⟩
              case measure => simp [intOf]; omega
          · have e1 : r.take k = r := List.take_of_length_le (by omega)
            rw [e1]
            have hkr : ¬ (k : Int) < (r.length : Int) := by omega
            by_cases hx : ∃ i ∈ r, (xAt l i).b = (((0 : Nat) : Nat) : Int)
            · obtain ⟨i, hi, hib⟩ := hx
              have hWi := lastW_some HAP.out hi hib
              rw [hWi]
              clear hWi
              have hil := HRI.out i hi
              have hhk := HLK.out i hi
              have hixb := idxB_lt hhk
              obtain ⟨t, ht2, htb⟩ := HIN.out i hil
              have HDW := Lib.hid (draw_work l L (p := (0 : Nat)) HAP.out hi hib hnr.out)
              rw [← hTD.out, ← hTD.out, ← E1.out] at HDW
              have HNX : Hid (∀ k ∈ r, (xAt l k).b + 1 ≠ (((0 : Nat) + 2 : Nat) : Int)) := Lib.hid (fun k hk => by
                by_cases e : i = k
                · subst e; omega
                · have := HAP.out i hi k hk e; omega)
              rw [xAt_of hil] at HDW hhk hixb
              have HLOOK := Lib.hid (fun W => rlook_any l[i] W)
              obtain ⟨LB, hLB⟩ : ∃ LB, Hid (lookB l[i] = LB) := ⟨_, Lib.hid rfl⟩
              rw [hLB.out] at HDW hhk hixb HLOOK
              have hII := idxI_has hhk
              obtain ⟨ix, hix⟩ : ∃ ix, Hid (idxB L LB = ix) := ⟨_, Lib.hid rfl⟩
              rw [hix.out] at hII HDW hixb
              have HII := Lib.hid hII
              clear hII hhk
              obtain ⟨b, o, hA, hb0, n0, n1, n2⟩ := (hr.below' hBw hH).tri hil
              subst hA
              have hbW := lt_of_cell n1
              have k0 : (0 : Int) ≤ (i : Int) := by omega
              have k1 : (i : Int) < (l.length : Int) := by omega
              have k2 : ¬ (i : Int) < 0 := by omega
              obtain ⟨T2, hT2⟩ : ∃ T2, Hid (T1 ++ [40] = T2) := ⟨_, Lib.hid rfl⟩
              obtain ⟨T3, hT3⟩ : ∃ T3, Hid (T2 ++ [letN ix] = T3) := ⟨_, Lib.hid rfl⟩
              obtain ⟨T4, hT4⟩ : ∃ T4, Hid (T3 ++ [41] = T4) := ⟨_, Lib.hid rfl⟩
              have l2 : T2.length ≤ 101 := by rw [← hT2.out]; simp; omega
              have l3 : T3.length ≤ 102 := by rw [← hT3.out]; simp; omega
              have s2 : ¬ 9223372036854775807 < (bN T1).size + 1 := by rw [bN_size]; omega
              have c2 : bN T1 ++ (⟨#[40]⟩ : ByteArray) = bN T2 := by rw [← hT2.out]; exact bN_app T1 [40]
              have s3 : ¬ 9223372036854775807 < (bN T2).size + (bN [letN ix]).size := by rw [bN_size, bN_size]; simp; omega
              have c3 : bN T2 ++ bN [letN ix] = bN T3 := by rw [← hT3.out]; exact bN_app _ _
              have s4 : ¬ 9223372036854775807 < (bN T3).size + 1 := by rw [bN_size]; omega
              have c4 : bN T3 ++ (⟨#[41]⟩ : ByteArray) = bN T4 := by rw [← hT4.out]; exact bN_app _ [41]
              go_wp2_with (first
                | (go_at_call 65; refine (HLOOK.out _).mono ?_; rintro e w4 ⟨rfl, hB4⟩)
                | (go_at_call 64; refine (rindex_any AL L cL LB w4 H ((hLr.below' hBw hH).below' hB4 (by have := hBw.size; omega)) (by omega)).mono ?_; rintro e w5 ⟨rfl, rfl⟩; rw [HII.out])
                | (go_at_call 41; refine (rletter14_any ix (by omega) _).mono ?_; rintro e w6 ⟨rfl, rfl⟩)
                | fail)
              go_roundw
              case rel => exact ⟨(0 : Nat) + 2, by omega, by go_num, by rw [HDW.out, ← hT4.out, ← hT3.out, ← hT2.out]; simp, HNX, hB3.trans (hB4.mono (by omega))⟩
              case measure => simp [intOf]; omega
            · have hnone : ∀ i ∈ r, (xAt l i).b ≠ (((0 : Nat) : Nat) : Int) := fun i hi e => hx ⟨i, hi, e⟩
              have hWi := lastW_none hnone
              rw [hWi]
              clear hWi
              have HDF := Lib.hid (draw_free l L (p := (0 : Nat)) hnone hnr.out)
              rw [← hTD.out, ← hTD.out, ← E1.out] at HDF
              have HNX : Hid (∀ k ∈ r, (xAt l k).b + 1 ≠ (((0 : Nat) + 1 : Nat) : Int)) := Lib.hid (fun k hk => by have := hnone k hk; omega)
              clear hnone hx
              have s2 : ¬ 9223372036854775807 < (bN T1).size + 1 := by rw [bN_size]; omega
              have c2 : bN T1 ++ (⟨#[124]⟩ : ByteArray) = bN (T1 ++ [124]) := bN_app T1 [124]
              go_wp2_with fail
              go_roundw
              case rel => exact ⟨(0 : Nat) + 1, by omega, by go_num, by rw [HDF.out], HNX, hB3⟩
              case measure => simp [intOf]; omega
      · have i2 : (0 : Int) < (P0 : Int) := by omega
        have s1 : ¬ 9223372036854775807 < (bN (TD P0)).size + 1 := by rw [bN_size]; omega
        have c1 : bN (TD P0) ++ (⟨#[32]⟩ : ByteArray) = bN (TD P0 ++ [32]) := bN_app (TD P0) [32]
        have E1 : Hid (TD P0 ++ [32] = TD P0 ++ sepB P0) := Lib.hid (by unfold sepB; rw [if_neg hzero])
        have hX1 : (TD P0 ++ [32]).length ≤ 100 := by rw [List.length_append, hTl]; simp; omega
        generalize TD P0 ++ [32] = T1 at E1 hX1 c1
        go_wp2_with fail
        obtain ⟨wo, hwo⟩ : ∃ wo : World, wo = wr := ⟨_, rfl⟩
        obtain rfl := hwo
        go_loopw [9, 10] (fun wv iv wr => ∃ k : Nat, k ≤ r.length ∧ iv = .int .i64 k ∧ wv = .int .i64 (lastW l (r.take k) P0) ∧ Below wo.heap.size wo wr) (fun _ iv _ => r.length - (intOf iv).toNat)
        case atStart => exact ⟨0, Nat.zero_le _, rfl, rfl, Below.refl _ _⟩
        case round =>
          obtain ⟨k, hk, rfl, rfl, hB2⟩ := hrel
          have hz2 := hB2.size
          have hB3 := hB.trans (hB2.mono hz)
          have hBw := hB0.trans (hB3.mono hz0)
          have kA2 := kA0.below' hB3
          have a02 := kA2.cell 0 _ rfl
          have a12 := kA2.cell 1 _ rfl
          have al2 := kA2.lt
          by_cases hkl : k < r.length
          · obtain ⟨rb, ro, hAr, hrb, m0⟩ := (hrow.below' hBw hH).nat hkl
            subst hAr
            have hq1 := HRI.out r[k] (List.getElem_mem hkl)
            have hsn := lastW_snoc l (r.take k) P0 r[k]
            rw [← take_snoc r k hkl, xAt_of hq1] at hsn
            have HSN := Lib.hid hsn
            clear hsn
            obtain ⟨b, o, hA, hb0, n0, n1, n2⟩ := (hr.below' hBw hH).tri hq1
            subst hA
            obtain ⟨bq, hbq⟩ : ∃ bq, Hid (l[r[k]].b = bq) := ⟨_, Lib.hid rfl⟩
            rw [hbq.out] at n1 HSN
            obtain ⟨q, hq⟩ : ∃ q, Hid (r[k] = q) := ⟨_, Lib.hid rfl⟩
            have hql : q < l.length := by rw [← hq.out]; exact hq1
            simp only [hq.out] at m0 n0 n1 n2 HSN
            obtain ⟨W0, hW0⟩ : ∃ W0, Hid (lastW l (r.take k) P0 = W0) := ⟨_, Lib.hid rfl⟩
            rw [hW0.out] at HSN
            rw [hW0.out]
            have hbW := lt_of_cell n1
            have hrW := lt_of_cell m0
            have k0 : (0 : Int) ≤ (k : Int) := by omega
            have k1 : (k : Int) < (r.length : Int) := by omega
            have k2 : (0 : Int) ≤ (q : Int) := by omega
            have k3 : (q : Int) < (l.length : Int) := by omega
            by_cases he : bq = ((P0 : Nat) : Int)
            · have he' : (bq == ((P0 : Nat) : Int)) = true := beq_iff_eq.2 he
              have HE := Lib.hid he
              clear he
              go_wp2_with fail
              go_quiet (fail)
              go_wp2_with fail
              go_roundw
              case rel => exact ⟨k + 1, by omega, by go_num, by rw [HSN.out, if_pos HE.out], hB2.drewN nq⟩
              case measure => simp [intOf]; omega
            · have he' : (bq == ((P0 : Nat) : Int)) = false := beq_eq_false_iff_ne.2 he
              have HE := Lib.hid he
              clear he
              go_wp2_with fail
              go_quiet (fail)
              go_wp2_with fail
              go_roundw
              case rel => exact ⟨k + 1, by omega, by go_num, by rw [HSN.out, if_neg HE.out], hB2.drewN nq⟩
              case measure => simp [intOf]; omega
          · have e1 : r.take k = r := List.take_of_length_le (by omega)
            rw [e1]
            have hkr : ¬ (k : Int) < (r.length : Int) := by omega
            by_cases hx : ∃ i ∈ r, (xAt l i).b = ((P0 : Nat) : Int)
            · obtain ⟨i, hi, hib⟩ := hx
              have hWi := lastW_some HAP.out hi hib
              rw [hWi]
              clear hWi
              have hil := HRI.out i hi
              have hhk := HLK.out i hi
              have hixb := idxB_lt hhk
              obtain ⟨t, ht2, htb⟩ := HIN.out i hil
              have HDW := Lib.hid (draw_work l L (p := P0) HAP.out hi hib hnr.out)
              rw [← hTD.out, ← hTD.out, ← E1.out] at HDW
              have HNX : Hid (∀ k ∈ r, (xAt l k).b + 1 ≠ ((P0 + 2 : Nat) : Int)) := Lib.hid (fun k hk => by
                by_cases e : i = k
                · subst e; omega
                · have := HAP.out i hi k hk e; omega)
              rw [xAt_of hil] at HDW hhk hixb
              have HLOOK := Lib.hid (fun W => rlook_any l[i] W)
              obtain ⟨LB, hLB⟩ : ∃ LB, Hid (lookB l[i] = LB) := ⟨_, Lib.hid rfl⟩
              rw [hLB.out] at HDW hhk hixb HLOOK
              have hII := idxI_has hhk
              obtain ⟨ix, hix⟩ : ∃ ix, Hid (idxB L LB = ix) := ⟨_, Lib.hid rfl⟩
              rw [hix.out] at hII HDW hixb
              have HII := Lib.hid hII
              clear hII hhk
              obtain ⟨b, o, hA, hb0, n0, n1, n2⟩ := (hr.below' hBw hH).tri hil
              subst hA
              have hbW := lt_of_cell n1
              have k0 : (0 : Int) ≤ (i : Int) := by omega
              have k1 : (i : Int) < (l.length : Int) := by omega
              have k2 : ¬ (i : Int) < 0 := by omega
              obtain ⟨T2, hT2⟩ : ∃ T2, Hid (T1 ++ [40] = T2) := ⟨_, Lib.hid rfl⟩
              obtain ⟨T3, hT3⟩ : ∃ T3, Hid (T2 ++ [letN ix] = T3) := ⟨_, Lib.hid rfl⟩
              obtain ⟨T4, hT4⟩ : ∃ T4, Hid (T3 ++ [41] = T4) := ⟨_, Lib.hid rfl⟩
              have l2 : T2.length ≤ 101 := by rw [← hT2.out]; simp; omega
              have l3 : T3.length ≤ 102 := by rw [← hT3.out]; simp; omega
              have s2 : ¬ 9223372036854775807 < (bN T1).size + 1 := by rw [bN_size]; omega
              have c2 : bN T1 ++ (⟨#[40]⟩ : ByteArray) = bN T2 := by rw [← hT2.out]; exact bN_app T1 [40]
              have s3 : ¬ 9223372036854775807 < (bN T2).size + (bN [letN ix]).size := by rw [bN_size, bN_size]; simp; omega
              have c3 : bN T2 ++ bN [letN ix] = bN T3 := by rw [← hT3.out]; exact bN_app _ _
              have s4 : ¬ 9223372036854775807 < (bN T3).size + 1 := by rw [bN_size]; omega
              have c4 : bN T3 ++ (⟨#[41]⟩ : ByteArray) = bN T4 := by rw [← hT4.out]; exact bN_app _ [41]
              go_wp2_with (first
                | (go_at_call 65; refine (HLOOK.out _).mono ?_; rintro e w4 ⟨rfl, hB4⟩)
                | (go_at_call 64; refine (rindex_any AL L cL LB w4 H ((hLr.below' hBw hH).below' hB4 (by have := hBw.size; omega)) (by omega)).mono ?_; rintro e w5 ⟨rfl, rfl⟩; rw [HII.out])
                | (go_at_call 41; refine (rletter14_any ix (by omega) _).mono ?_; rintro e w6 ⟨rfl, rfl⟩)
                | fail)
              go_roundw
              case rel => exact ⟨P0 + 2, by omega, by go_num, by rw [HDW.out, ← hT4.out, ← hT3.out, ← hT2.out]; simp, HNX, hB3.trans (hB4.mono (by omega))⟩
              case measure => simp [intOf]; omega
            · have hnone : ∀ i ∈ r, (xAt l i).b ≠ ((P0 : Nat) : Int) := fun i hi e => hx ⟨i, hi, e⟩
              have hWi := lastW_none hnone
              rw [hWi]
              clear hWi
              have HDF := Lib.hid (draw_free l L (p := P0) hnone hnr.out)
              rw [← hTD.out, ← hTD.out, ← E1.out] at HDF
              have HNX : Hid (∀ k ∈ r, (xAt l k).b + 1 ≠ ((P0 + 1 : Nat) : Int)) := Lib.hid (fun k hk => by have := hnone k hk; omega)
              clear hnone hx
              have s2 : ¬ 9223372036854775807 < (bN T1).size + 1 := by rw [bN_size]; omega
              have c2 : bN T1 ++ (⟨#[124]⟩ : ByteArray) = bN (T1 ++ [124]) := bN_app T1 [124]
              go_wp2_with fail
              go_roundw
              case rel => exact ⟨P0 + 1, by omega, by go_num, by rw [HDF.out], HNX, hB3⟩
              case measure => simp [intOf]; omega
    · obtain rfl : P0 = p := by omega
      go_wp2_with fail
      go_ret
      exact ⟨by rw [HDR.out]; rfl, hB0.trans (hB.mono hz0)⟩
end Go.Proofs.YtoccplfnjammjaaGreatDoor
