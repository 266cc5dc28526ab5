/- Merged: RNum RNum2 RNum3. -/
import Derived.Test.YtoccplfnjammjaaGreatDoorNum
import Derived.Test.YtoccplfnjammjaaGreatDoorOldA5
import Derived.Lib.ItoaLen
set_option linter.unusedSimpArgs false
set_option linter.unusedVariables false
namespace Go.Proofs.YtoccplfnjammjaaGreatDoor
open Go Go.RowKit Tor

theorem bN_app (a b : List UInt8) : bN a ++ bN b = bN (a ++ b) := ByteArray.ext (Array.ext' (by rw [ByteArray.data_append, Array.toList_append]; rfl))
theorem itoa_size (n : Int) (h0 : -9223372036854775808 ≤ n) (h1 : n ≤ 9223372036854775807) : (bN (Lib.itoa n)).size ≤ 21 := Lib.itoa_length_le n h0 h1
theorem conv_byte (g cap : Nat) (c : UInt8) (n : Int) (hn : (c.toNat : Int) = n) (w : World) (h : w.cell? ⟨g, 0, none⟩ = some (.int .u8 n)) :
    (convert 85 9 (.slice (some ⟨g, 0, none⟩) 1 cap)).run Tryz.prog w = .ok (.string ⟨#[c]⟩) w := by
  subst hn
  have := run_convert_bytes_back (P := Tryz.prog) w 85 9 5 ⟨g, 0, none⟩ cap [c] Tryz.underlying85 Tryz.underlying5 Tryz.underlying9 (fun j hj => by
    match j, hj with
    | 0, _ => simpa [Addr.add] using h)
  simpa using this
set_option maxRecDepth 100000 in
theorem rdig_small (n : Nat) (h : n < 10) (w : World) : Calls Tryz.prog 59 #[.int .i64 n] w (Ret (.string (bN (Lib.itoa n))) w) := by
  have b1 : ¬ (n : Int) < 0 := by omega
  have b2 : (n : Int) < 10 := by omega
  have e1 : Lib.itoa n = [UInt8.ofNat (48 + n)] := by rw [Lib.itoa_nonneg, Lib.decDigits_one h]
  have hS : Hid (bN (Lib.itoa n) = ⟨#[UInt8.ofNat (48 + n)]⟩) := by rw [Hid, e1]; rfl
  rw [hS.out]
  have hd : ((UInt8.ofNat (48 + n)).toNat : Int) = 48 + (n : Int) := by rw [dig_of h]; omega
  have hw : IntKind.u8.wrap (48 + (n : Int)) = 48 + (n : Int) := by
    have h9 : ∀ k : Fin 10, IntKind.u8.wrap (48 + ((k.1 : Nat) : Int)) = 48 + ((k.1 : Nat) : Int) := by decide
    exact h9 ⟨n, h⟩
  have hcb : (convert 85 9 (.slice (some ⟨w.heap.size, 0, none⟩) 1 1)).run Tryz.prog (w.alloc (.cells #[.int .u8 (48 + (n : Int))] 5)) = .ok (.string ⟨#[UInt8.ofNat (48 + n)]⟩) _ := conv_byte w.heap.size 1 _ _ hd _ (cell_new rfl)
  clear e1 hd
  go_enter Tryz.func59, Tryz.ntmps59
  go_wp2_with fail
  go_ret
  exact Ret.val rfl (by (repeat' first | exact Below.refl _ _ | apply Below.drew | (refine Below.setCells ?_ _ _ ?_) | (refine Below.setCell ?_ ?_ _) | (refine Below.alloc ?_ ?_ _) | (simp; done) | (simp; omega)))
set_option maxRecDepth 100000 in
theorem rdig_nat (n : Nat) : n ≤ 9223372036854775807 → ∀ w : World, Calls Tryz.prog 59 #[.int .i64 n] w (Ret (.string (bN (Lib.itoa n))) w) := by
  induction n using Nat.strongRecOn with
  | _ n ih =>
    intro hn w
    by_cases h : n < 10
    · exact rdig_small n h w
    have b1 : ¬ (n : Int) < 0 := by omega
    have b2 : ¬ (n : Int) < 10 := by omega
    have IH := Lib.hid (fun w' => (by have := ih (n / 10) (by omega) (by omega) w'; rwa [Int.natCast_ediv] at this : Calls Tryz.prog 59 #[.int .i64 ((n : Int) / 10)] w' (Ret (.string (bN (Lib.itoa ((n : Int) / 10)))) w')))
    have IM := Lib.hid (fun w' => (by have := rdig_small (n % 10) (by omega) w'; rwa [Int.natCast_emod] at this : Calls Tryz.prog 59 #[.int .i64 ((n : Int) % 10)] w' (Ret (.string (bN (Lib.itoa ((n : Int) % 10)))) w')))
    clear ih
    have e : Hid (bN (Lib.itoa n) = bN (Lib.itoa ((n : Int) / 10)) ++ bN (Lib.itoa ((n : Int) % 10))) := by
      rw [Hid, bN_app]
      congr 1
      have h1 : (n : Int) / 10 = ((n / 10 : Nat) : Int) := by omega
      have h2 : (n : Int) % 10 = ((n % 10 : Nat) : Int) := by omega
      rw [h1, h2, Lib.itoa_nonneg, Lib.itoa_nonneg, Lib.itoa_nonneg, Lib.decDigits_one (i := n % 10) (by omega)]
      rw [Lib.decDigits, dif_neg h]
    rw [e.out]
    have z1 : (bN (Lib.itoa ((n : Int) / 10))).size ≤ 21 := itoa_size _ (by omega) (by omega)
    have z2 : (bN (Lib.itoa ((n : Int) % 10))).size ≤ 21 := itoa_size _ (by omega) (by omega)
    generalize bN (Lib.itoa ((n : Int) / 10)) = S1 at *
    generalize bN (Lib.itoa ((n : Int) % 10)) = S2 at *
    clear e
    have z3 : S1.size + S2.size ≤ 9223372036854775807 := by omega
    have z4 : S1.size + S2.size ≤ 140737488355328 := by omega
    go_enter Tryz.func59, Tryz.ntmps59
    go_wp2_with fail
    refine (IH.out w).mono ?_
    rintro e w1 ⟨rfl, hB1⟩
    go_wp2_with fail
    refine (IM.out w1).mono ?_
    rintro e w2 ⟨rfl, hB2⟩
    go_wp2_with fail
    go_ret
    exact Ret.val rfl (hB1.trans (hB2.mono hB1.size))
set_option maxRecDepth 100000 in
theorem rdig_neg (n : Nat) : 1 ≤ n → n ≤ 9223372036854775808 → ∀ w : World, Calls Tryz.prog 59 #[.int .i64 (-(n : Int))] w (Ret (.string (bN (Lib.itoa (-(n : Int))))) w) := by
  induction n using Nat.strongRecOn with
  | _ n ih =>
    intro h1 hn w
    have b1 : (-(n : Int)) < 0 := by omega
    by_cases h : n < 10
    · have b2 : (-10 : Int) < -(n : Int) := by omega
      have IM := Lib.hid (fun w' => rdig_small n h w')
      have e : Hid (bN (Lib.itoa (-(n : Int))) = ⟨#[45]⟩ ++ bN (Lib.itoa n)) := by
        have e0 : (⟨#[45]⟩ : ByteArray) = bN [45] := rfl
        rw [Hid, e0, bN_app]
        congr 1
        rw [Lib.itoa_nonneg, Lib.itoa_neg n h1]
        rfl
      have hwr : IntKind.i64.wrap (- -(n : Int)) = n := by rw [Int.neg_neg]; exact IntWalk.i64_in _ (by omega)
      have hwr2 : - -(n : Int) = n := Int.neg_neg _
      rw [e.out]
      have z1 : (bN (Lib.itoa n)).size ≤ 21 := itoa_size _ (by omega) (by omega)
      generalize bN (Lib.itoa n) = S1 at *
      clear e
      have z3 : (⟨#[45]⟩ : ByteArray).size + S1.size ≤ 9223372036854775807 := by show 1 + S1.size ≤ _; omega
      have z5 : 1 + S1.size ≤ 9223372036854775807 := by omega
      go_enter Tryz.func59, Tryz.ntmps59
      go_wp2_with fail
      refine (IM.out w).mono ?_
      rintro e w1 ⟨rfl, hB1⟩
      go_wp2_with fail
      go_ret
      exact Ret.val rfl hB1
    · have b2 : ¬ (-10 : Int) < -(n : Int) := by omega
      have IH := Lib.hid (fun w' => (by have := ih (n / 10) (by omega) (by omega) (by omega) w'; rwa [Int.natCast_ediv] at this : Calls Tryz.prog 59 #[.int .i64 (-((n : Int) / 10))] w' (Ret (.string (bN (Lib.itoa (-((n : Int) / 10))))) w')))
      have IM := Lib.hid (fun w' => (by have := rdig_small (n % 10) (by omega) w'; rwa [Int.natCast_emod] at this : Calls Tryz.prog 59 #[.int .i64 ((n : Int) % 10)] w' (Ret (.string (bN (Lib.itoa ((n : Int) % 10)))) w')))
      have e : Hid (bN (Lib.itoa (-(n : Int))) = bN (Lib.itoa (-((n : Int) / 10))) ++ bN (Lib.itoa ((n : Int) % 10))) := by
        rw [Hid, bN_app]
        congr 1
        have q1 : (n : Int) / 10 = ((n / 10 : Nat) : Int) := by omega
        have q2 : (n : Int) % 10 = ((n % 10 : Nat) : Int) := by omega
        rw [q1, q2, Lib.itoa_nonneg, Lib.itoa_neg _ h1, Lib.itoa_neg _ (by omega), Lib.decDigits_one (i := n % 10) (by omega), List.cons_append]
        congr 1
        rw [Lib.decDigits, dif_neg h]
      rw [e.out]
      have z1 : (bN (Lib.itoa (-((n : Int) / 10)))).size ≤ 21 := itoa_size _ (by omega) (by omega)
      have z2 : (bN (Lib.itoa ((n : Int) % 10))).size ≤ 21 := itoa_size _ (by omega) (by omega)
      generalize bN (Lib.itoa (-((n : Int) / 10))) = S1 at *
      generalize bN (Lib.itoa ((n : Int) % 10)) = S2 at *
      clear e ih
      have z3 : S1.size + S2.size ≤ 9223372036854775807 := by omega
      go_enter Tryz.func59, Tryz.ntmps59
      go_wp2_with fail
      refine (IH.out w).mono ?_
      rintro e w1 ⟨rfl, hB1⟩
      go_wp2_with fail
      refine (IM.out w1).mono ?_
      rintro e w2 ⟨rfl, hB2⟩
      go_wp2_with fail
      go_ret
      exact Ret.val rfl (hB1.trans (hB2.mono hB1.size))
theorem rdig_any (n : Int) (h0 : -9223372036854775808 ≤ n) (h1 : n ≤ 9223372036854775807) (w : World) : Calls Tryz.prog 59 #[.int .i64 n] w (Ret (.string (bN (Lib.itoa n))) w) := by
  by_cases h : n < 0
  · obtain ⟨k, rfl⟩ : ∃ k : Nat, n = -(k : Int) := ⟨n.natAbs, by omega⟩
    exact rdig_neg k (by omega) (by omega) w
  · obtain ⟨k, rfl⟩ : ∃ k : Nat, n = k := ⟨n.toNat, by omega⟩
    exact rdig_nat k (by omega) w
end Go.Proofs.YtoccplfnjammjaaGreatDoor

namespace Go.Proofs.YtoccplfnjammjaaGreatDoor
open Go Go.RowKit Tor

theorem rdigitN_any (c : UInt8) (w : World) : Calls Tryz.prog 77 #[.int .u8 c.toNat] w (Ret (.bool (digB c)) w) := by
  have hv : Hid (digB c = (decide (48 ≤ (c.toNat : Int)) && decide ((c.toNat : Int) ≤ 57))) := by
    rw [Hid]; unfold digB
    have e1 : decide (48 ≤ c.toNat) = decide (48 ≤ (c.toNat : Int)) := by apply decide_eq_decide.2; omega
    have e2 : decide (c.toNat ≤ 57) = decide ((c.toNat : Int) ≤ 57) := by apply decide_eq_decide.2; omega
    rw [e1, e2]
  rw [hv.out]
  by_cases h1 : 48 ≤ (c.toNat : Int) <;> by_cases h2 : (c.toNat : Int) ≤ 57
  all_goals
    go_enter Tryz.func77, Tryz.ntmps77
    go_wp2_with fail
    go_ret
    exact Ret.val (by simp [h1, h2]) (Below.refl _ _)
theorem magL_drop (L : List UInt8) : magL L = L.drop (if negB L then 1 else 0) := by
  unfold magL
  cases negB L
  · rfl
  · cases L <;> rfl

theorem two_of {L : List UInt8} (h : L.length = 2) (hN : negB L = true) (hm : magL L = [48]) : L = [45, 48] := by
  unfold magL at hm
  rw [hN] at hm
  match L, h with
  | [a, b], _ =>
    have hb : b = 48 := by simpa using hm
    have ha := of_decide_eq_true hN
    rw [List.head?_cons] at ha
    rw [Option.some.inj ha, hb]

set_option maxRecDepth 100000 in
set_option maxHeartbeats 4000000 in
theorem rwhole_any (L : List UInt8) (w : World) (hl : L.length ≤ 1000000) : Calls Tryz.prog 76 #[.string (bN L)] w (Ret (.bool (wholeB L)) w) := by
  obtain ⟨f, hf⟩ : ∃ f : Nat, Hid ((if negB L then 1 else 0) = f) := ⟨_, Lib.hid rfl⟩
  have hm := magL_drop L
  rw [hf.out] at hm
  have HM := Lib.hid hm
  have hfl : f ≤ L.length := by
    rw [← hf.out]
    cases L with
    | nil => decide
    | cons a r => split <;> simp
  have hz : (bN L).size = L.length := rfl
  have hf1 : f ≤ 1 := by rw [← hf.out]; split <;> omega
  obtain ⟨wo, rfl⟩ : ∃ wo : World, wo = w := ⟨_, rfl⟩
  have main : ∀ (Q : Prop), Q → Q := fun _ h => h
  clear main hm
  -- the sign
  by_cases hL0 : L = []
  · have hW : Hid (wholeB L = false) := by rw [Hid, hL0]; rfl
    rw [hW.out]
    have h0 : L.length = 0 := by rw [hL0]; rfl
    have n0 : ¬ (0 : Int) < (L.length : Int) := by omega
    rw [hL0]
    clear HM hf hfl hf1 hW n0 h0 hz hL0
    go_enter Tryz.func76, Tryz.ntmps76
    go_wp2_with fail
    go_loopw [4] (fun i wr => i = .int .i64 0 ∧ Below wo.heap.size wo wr) (fun i _ => 0)
    case atStart => exact ⟨rfl, Below.refl _ _⟩
    case round =>
      obtain ⟨rfl, hB⟩ := hrel
      have hz0 : (bN []).size = 0 := rfl
      go_wp2_with fail
      go_ret
      exact Ret.val rfl hB
  · have hx : 0 < (bN L).size := by
      have : L.length ≠ 0 := fun e => hL0 (List.length_eq_zero_iff.1 e)
      show 0 < L.length
      omega
    have n0 : (0 : Int) < (L.length : Int) := by have : 0 < L.length := hx; omega
    have q45 : ((((bN L)[0]'hx).toNat : Int) == 45) = negB L := by
      have e1 : L.head? = some ((bN L)[0]'hx) := by rw [List.head?_eq_getElem?, List.getElem?_eq_getElem hx]; rfl
      unfold negB
      rw [e1]
      by_cases h : (bN L)[0]'hx = 45
      · rw [h]; rfl
      · have h9 : ((bN L)[0]'hx).toNat ≠ 45 := fun e => h (UInt8.toNat_inj.1 e)
        have h8 : ((((bN L)[0]'hx).toNat : Int) == 45) = false := by simp; omega
        rw [h8]
        exact (decide_eq_false (fun e => h (Option.some.inj e))).symm
    cases hN : negB L
    · rw [hN] at q45 hf
      have hf0 : f = 0 := hf.out.symm
      subst hf0
      clear hf hf1
      go_enter Tryz.func76, Tryz.ntmps76
      go_wp2_with fail
      go_loopw [4] (fun i wr => ∃ k : Nat, 0 ≤ k ∧ k ≤ L.length ∧ i = .int .i64 k ∧ Hid (((L.take k).drop 0).all digB = true) ∧ Below wo.heap.size wo wr) (fun i _ => L.length - (intOf i).toNat)
      case atStart => exact ⟨0, Nat.le_refl _, hfl, rfl, Lib.hid (by rw [List.drop_take]; rfl), Below.refl _ _⟩
      case round =>
        obtain ⟨k, hfk, hk, rfl, hall, hB⟩ := hrel
        by_cases hlt : k < L.length
        · have hk' : k < (bN L).size := hlt
          have HD := Lib.hid (fun (w' : World) => (rdigitN_any (L[k]'hlt) w' : Calls Tryz.prog 77 #[.int .u8 (((bN L)[k]'hk').toNat : Int)] w' (Ret (.bool (digB (L[k]'hlt))) w')))
          have hin : L[k]'hlt ∈ magL L := by
            rw [HM.out]
            refine List.mem_iff_getElem.2 ⟨k - 0, by rw [List.length_drop]; omega, ?_⟩
            rw [List.getElem_drop]
            congr 1
            omega
          have htk : (L.take (k + 1)).drop 0 = (L.take k).drop 0 ++ [L[k]'hlt] := by
            rw [← List.take_append_getElem hlt, List.drop_append_of_le_length (by rw [List.length_take]; omega)]
          cases hd : digB (L[k]'hlt)
          · have hI : Hid (wholeB L = false) := by
              have : (magL L).all digB = false := by
                cases h : (magL L).all digB
                · rfl
                · have := List.all_eq_true.1 h _ hin
                  rw [hd] at this; cases this
              rw [Hid]; unfold wholeB natB; rw [this]; rfl
            rw [hd] at HD
            clear hd htk hin
            go_wp2_with (first
              | (go_at_call 77; refine (HD.out _).mono ?_; rintro e w2 ⟨rfl, hB2⟩)
              | fail)
            go_ret
            rw [hI.out]
            exact Ret.val rfl (hB.trans (hB2.mono hB.size))
          · have hall' : Hid (((L.take (k + 1)).drop 0).all digB = true) := by
              rw [Hid, htk, List.all_append, hall.out]; simp [hd]
            rw [hd] at HD
            clear hd htk hin
            go_wp2_with (first
              | (go_at_call 77; refine (HD.out _).mono ?_; rintro e w2 ⟨rfl, hB2⟩)
              | fail)
            go_roundw
            case rel => exact ⟨k + 1, by omega, by omega, by go_num, hall', hB.trans (hB2.mono hB.size)⟩
            case measure => simp [intOf]; omega
        · have ek : k = L.length := by omega
          subst ek
          have hal : (magL L).all digB = true := by have := hall.out; rw [List.take_length] at this; rw [HM.out]; exact this
          have HAL := Lib.hid hal
          have hml : (magL L).length = L.length - 0 := by rw [HM.out, List.length_drop]
          clear hal hall
          by_cases he : L.length = 0
          · have e0 : ((L.length : Int) == 0) = true := by rw [he]; rfl
            have hI : Hid (wholeB L = false) := by
              have : magL L = [] := List.length_eq_zero_iff.1 (by omega)
              rw [Hid]; unfold wholeB natB; rw [this]; rfl
            clear he hml
            go_wp2_with fail
            go_ret
            rw [hI.out]
            exact Ret.val rfl hB
          · have e0 : ((L.length : Int) == 0) = false := by simp; omega
            have hxf : 0 < (bN L).size := by show 0 < L.length; omega
            have hg : (bN L)[0]'hxf = L[0]'hxf := rfl
            have hhd : (magL L).head? = some (L[0]'hxf) := by rw [HM.out, List.head?_drop, List.getElem?_eq_getElem hxf]
            by_cases h48 : L[0]'hxf = 48
            · have q48 : ((((bN L)[0]'hxf).toNat : Int) == 48) = true := by rw [hg, h48]; rfl
              by_cases h1 : 1 < L.length
              · have e1 : (1 : Int) < (L.length : Int) := by omega
                have hI : Hid (wholeB L = false) := by
                  rw [Hid]; unfold wholeB natB; rw [hhd, h48]
                  have : 1 < (magL L).length := by omega
                  simp [this]
                clear he hml hhd h48 h1 hg
                go_wp2_with fail
                go_ret
                rw [hI.out]
                exact Ret.val rfl hB
              · have e1 : ¬ (1 : Int) < (L.length : Int) := by omega
                have em : magL L = [48] := by
                  have hl1 : (magL L).length = 1 := by omega
                  match hM : magL L, hl1, hhd with
                  | [a], _, hhd => rw [List.head?_cons] at hhd; rw [Option.some.inj hhd, h48]
                have hI : Hid (wholeB L = true) := by
                  rw [Hid]; unfold wholeB; rw [em, hN]; decide
                have hq : Hid ((!decide (L = [45, 48])) = true) := by
                  have : L ≠ [45, 48] := fun e => by
                    rw [e] at hN; revert hN; decide
                    done
                  rw [Hid]; simp [this]
                have hq2 : ((bN L).toList == [45, 48]) = decide (L = [45, 48]) := by rw [ByteArray.toList_eq, show (bN L).data.toList = L from rfl]; by_cases h : L = [45, 48] <;> simp [h]
                clear he hml hhd h48 h1 hg em
                go_wp2_with fail
                go_ret
                rw [hI.out]
                exact Ret.val (by show Value.bool (!decide (L = [45, 48])) = _; rw [hq.out]) hB
            · have q48 : ((((bN L)[0]'hxf).toNat : Int) == 48) = false := by
                rw [hg]
                have : (L[0]'hxf).toNat ≠ 48 := fun e => h48 (UInt8.toNat_inj.1 e)
                simp; omega
              have hI : Hid (wholeB L = true) := by
                have h9 : (magL L).head? ≠ some 48 := by rw [hhd]; exact fun e => h48 (Option.some.inj e)
                have h8 : magL L ≠ [48] := fun e => h9 (by rw [e]; rfl)
                have h7 : magL L ≠ [] := fun e => by rw [e] at hml; simp at hml; omega
                rw [Hid]; unfold wholeB natB
                rw [HAL.out]
                simp [h7, h8, h9]
              have hq : Hid ((!decide (L = [45, 48])) = true) := by
                have : L ≠ [45, 48] := fun e => by
                  rw [e] at hN; revert hN; decide
                  done
                rw [Hid]; simp [this]
              have hq2 : ((bN L).toList == [45, 48]) = decide (L = [45, 48]) := by rw [ByteArray.toList_eq, show (bN L).data.toList = L from rfl]; by_cases h : L = [45, 48] <;> simp [h]
              clear he hml hhd h48 hg
              go_wp2_with fail
              go_ret
              rw [hI.out]
              exact Ret.val (by show Value.bool (!decide (L = [45, 48])) = _; rw [hq.out]) hB
    · rw [hN] at q45 hf
      have hf0 : f = 1 := hf.out.symm
      subst hf0
      clear hf hf1
      go_enter Tryz.func76, Tryz.ntmps76
      go_wp2_with fail
      go_loopw [4] (fun i wr => ∃ k : Nat, 1 ≤ k ∧ k ≤ L.length ∧ i = .int .i64 k ∧ Hid (((L.take k).drop 1).all digB = true) ∧ Below wo.heap.size wo wr) (fun i _ => L.length - (intOf i).toNat)
      case atStart => exact ⟨1, Nat.le_refl _, hfl, rfl, Lib.hid (by rw [List.drop_take]; rfl), Below.refl _ _⟩
      case round =>
        obtain ⟨k, hfk, hk, rfl, hall, hB⟩ := hrel
        by_cases hlt : k < L.length
        · have hk' : k < (bN L).size := hlt
          have HD := Lib.hid (fun (w' : World) => (rdigitN_any (L[k]'hlt) w' : Calls Tryz.prog 77 #[.int .u8 (((bN L)[k]'hk').toNat : Int)] w' (Ret (.bool (digB (L[k]'hlt))) w')))
          have hin : L[k]'hlt ∈ magL L := by
            rw [HM.out]
            refine List.mem_iff_getElem.2 ⟨k - 1, by rw [List.length_drop]; omega, ?_⟩
            rw [List.getElem_drop]
            congr 1
            omega
          have htk : (L.take (k + 1)).drop 1 = (L.take k).drop 1 ++ [L[k]'hlt] := by
            rw [← List.take_append_getElem hlt, List.drop_append_of_le_length (by rw [List.length_take]; omega)]
          cases hd : digB (L[k]'hlt)
          · have hI : Hid (wholeB L = false) := by
              have : (magL L).all digB = false := by
                cases h : (magL L).all digB
                · rfl
                · have := List.all_eq_true.1 h _ hin
                  rw [hd] at this; cases this
              rw [Hid]; unfold wholeB natB; rw [this]; rfl
            rw [hd] at HD
            clear hd htk hin
            go_wp2_with (first
              | (go_at_call 77; refine (HD.out _).mono ?_; rintro e w2 ⟨rfl, hB2⟩)
              | fail)
            go_ret
            rw [hI.out]
            exact Ret.val rfl (hB.trans (hB2.mono hB.size))
          · have hall' : Hid (((L.take (k + 1)).drop 1).all digB = true) := by
              rw [Hid, htk, List.all_append, hall.out]; simp [hd]
            rw [hd] at HD
            clear hd htk hin
            go_wp2_with (first
              | (go_at_call 77; refine (HD.out _).mono ?_; rintro e w2 ⟨rfl, hB2⟩)
              | fail)
            go_roundw
            case rel => exact ⟨k + 1, by omega, by omega, by go_num, hall', hB.trans (hB2.mono hB.size)⟩
            case measure => simp [intOf]; omega
        · have ek : k = L.length := by omega
          subst ek
          have hal : (magL L).all digB = true := by have := hall.out; rw [List.take_length] at this; rw [HM.out]; exact this
          have HAL := Lib.hid hal
          have hml : (magL L).length = L.length - 1 := by rw [HM.out, List.length_drop]
          clear hal hall
          by_cases he : L.length = 1
          · have e0 : ((L.length : Int) == 1) = true := by rw [he]; rfl
            have hI : Hid (wholeB L = false) := by
              have : magL L = [] := List.length_eq_zero_iff.1 (by omega)
              rw [Hid]; unfold wholeB natB; rw [this]; rfl
            clear he hml
            go_wp2_with fail
            go_ret
            rw [hI.out]
            exact Ret.val rfl hB
          · have e0 : ((L.length : Int) == 1) = false := by simp; omega
            have hxf : 1 < (bN L).size := by show 1 < L.length; omega
            have hg : (bN L)[1]'hxf = L[1]'hxf := rfl
            have hhd : (magL L).head? = some (L[1]'hxf) := by rw [HM.out, List.head?_drop, List.getElem?_eq_getElem hxf]
            by_cases h48 : L[1]'hxf = 48
            · have q48 : ((((bN L)[1]'hxf).toNat : Int) == 48) = true := by rw [hg, h48]; rfl
              by_cases h1 : 2 < L.length
              · have e1 : (2 : Int) < (L.length : Int) := by omega
                have hI : Hid (wholeB L = false) := by
                  rw [Hid]; unfold wholeB natB; rw [hhd, h48]
                  have : 1 < (magL L).length := by omega
                  simp [this]
                clear he hml hhd h48 h1 hg
                go_wp2_with fail
                go_ret
                rw [hI.out]
                exact Ret.val rfl hB
              · have e1 : ¬ (2 : Int) < (L.length : Int) := by omega
                have em : magL L = [48] := by
                  have hl1 : (magL L).length = 1 := by omega
                  match hM : magL L, hl1, hhd with
                  | [a], _, hhd => rw [List.head?_cons] at hhd; rw [Option.some.inj hhd, h48]
                have hI : Hid (wholeB L = false) := by
                  rw [Hid]; unfold wholeB; rw [em, hN]; decide
                have hq : Hid ((!decide (L = [45, 48])) = false) := by
                  have : L = [45, 48] := by
                    have h2 : L.length = 2 := by omega
                    exact two_of h2 hN em
                  rw [Hid]; simp [this]
                have hq2 : ((bN L).toList == [45, 48]) = decide (L = [45, 48]) := by rw [ByteArray.toList_eq, show (bN L).data.toList = L from rfl]; by_cases h : L = [45, 48] <;> simp [h]
                clear he hml hhd h48 h1 hg em
                go_wp2_with fail
                go_ret
                rw [hI.out]
                exact Ret.val (by show Value.bool (!decide (L = [45, 48])) = _; rw [hq.out]) hB
            · have q48 : ((((bN L)[1]'hxf).toNat : Int) == 48) = false := by
                rw [hg]
                have : (L[1]'hxf).toNat ≠ 48 := fun e => h48 (UInt8.toNat_inj.1 e)
                simp; omega
              have hI : Hid (wholeB L = true) := by
                have h9 : (magL L).head? ≠ some 48 := by rw [hhd]; exact fun e => h48 (Option.some.inj e)
                have h8 : magL L ≠ [48] := fun e => h9 (by rw [e]; rfl)
                have h7 : magL L ≠ [] := fun e => by rw [e] at hml; simp at hml; omega
                rw [Hid]; unfold wholeB natB
                rw [HAL.out]
                simp [h7, h8, h9]
              have hq : Hid ((!decide (L = [45, 48])) = true) := by
                have : L ≠ [45, 48] := fun e => by
                  have h9 : (magL L) = [48] := by rw [e]; rfl
                  rw [h9] at hhd; exact h48 (Option.some.inj hhd).symm
                rw [Hid]; simp [this]
              have hq2 : ((bN L).toList == [45, 48]) = decide (L = [45, 48]) := by rw [ByteArray.toList_eq, show (bN L).data.toList = L from rfl]; by_cases h : L = [45, 48] <;> simp [h]
              clear he hml hhd h48 hg
              go_wp2_with fail
              go_ret
              rw [hI.out]
              exact Ret.val (by show Value.bool (!decide (L = [45, 48])) = _; rw [hq.out]) hB
end Go.Proofs.YtoccplfnjammjaaGreatDoor

namespace Go.Proofs.YtoccplfnjammjaaGreatDoor
open Go Go.RowKit Tor

theorem nDig_le : ∀ (k u : Nat), u < 10 ^ (k + 1) → Lib.nDigits u ≤ k + 1
  | 0, u, h => by rw [Lib.nDigits_small (by simpa using h)]; omega
  | k + 1, u, h => by
    by_cases h9 : u < 10
    · rw [Lib.nDigits_small h9]; omega
    · rw [Lib.nDigits_big h9]
      have := nDig_le k (u / 10) (by rw [Nat.pow_succ] at h; omega)
      omega
theorem itoa_20 (n : Int) (h0 : -9223372036854775808 ≤ n) (h1 : n ≤ 9223372036854775807) : (Lib.itoa n).length ≤ 20 := by
  have h19 : ∀ u : Nat, u ≤ 9223372036854775808 → (Lib.decDigits u).length ≤ 19 := fun u hu => by
    rw [Lib.decDigits_length]
    exact nDig_le 18 u (by have : (10 : Nat) ^ (18 + 1) = 10000000000000000000 := by decide
                           omega)
  unfold Lib.itoa
  split
  · have := h19 n.natAbs (by omega)
    simp; omega
  · have := h19 n.toNat (by omega)
    omega
theorem whole_long {L : List UInt8} (h : wholeB L = true) (hl : 20 < L.length) : valB L < -9223372036854775808 ∨ 9223372036854775807 < valB L := by
  apply Classical.byContradiction
  intro hc
  have := itoa_20 (valB L) (by omega) (by omega)
  rw [itoa_of h] at this
  omega
def sgN (N : Bool) (v : Nat) : Int := if N then -(v : Int) else v
theorem wrap_step (a d : Int) : IntKind.i64.wrap (IntKind.i64.wrap (10 * IntKind.i64.wrap a) + d) = IntKind.i64.wrap (10 * a + d) := by
  rw [IntWalk.i64_left, IntWalk.i64_left, IntWalk.i64_left, IntWalk.i64_left]
  unfold wrap64
  omega
theorem wrap_range (a : Int) : -9223372036854775808 ≤ IntKind.i64.wrap a ∧ IntKind.i64.wrap a ≤ 9223372036854775807 := by
  rw [IntWalk.i64_left]; unfold wrap64; omega
/-- what the first k bytes spell -/
def partN (N : Bool) (L : List UInt8) (k : Nat) : Int := sgN N (natA 0 ((L.take k).drop (if N then 1 else 0)))
theorem part_zero (N : Bool) (L : List UInt8) : partN N L 0 = 0 := by cases N <;> rfl
theorem part_all (L : List UInt8) : partN (negB L) L L.length = valB L := by
  unfold partN valB natV
  rw [List.take_length, ← magL_drop]
  rfl
theorem part_sign {L : List UInt8} (hN : negB L = true) : partN true L 1 = 0 := by
  unfold partN
  cases L <;> rfl
theorem part_next {N : Bool} {L : List UInt8} {k : Nat} (hk : k < L.length) (hf : (if N then 1 else 0) ≤ k) : partN N L (k + 1) = 10 * partN N L k + sgN N (L[k].toNat - 48) := by
  unfold partN
  rw [← List.take_append_getElem hk, List.drop_append_of_le_length (by rw [List.length_take]; omega), natA_append]
  have e : natA (natA 0 ((L.take k).drop (if N then 1 else 0))) [L[k]] = natA 0 ((L.take k).drop (if N then 1 else 0)) * 10 + (L[k].toNat - 48) := rfl
  rw [e]
  unfold sgN
  cases N
  · simp; omega
  · simp; omega

set_option maxRecDepth 100000 in
set_option maxHeartbeats 4000000 in
theorem rint_any (L : List UInt8) (least most : Int) (w : World) (hl : L.length ≤ 1000000) :
    Calls Tryz.prog 39 #[.string (bN L), .int .i64 least, .int .i64 most] w (Ret (.tuple #[.int .i64 (intW L least most).1, .int .i64 (intW L least most).2]) w) := by
  by_cases hlm : most < least
  · have hI : Hid (intW L least most = (0, 2)) := by rw [Hid]; unfold intW; rw [if_pos hlm]
    rw [hI.out]
    go_enter Tryz.func39, Tryz.ntmps39
    go_wp2_with fail
    go_ret2
    exact ⟨rfl, Below.refl _ _⟩
  have HWH := Lib.hid (fun w' => rwhole_any L w' hl)
  cases hwh : wholeB L
  · have hI : Hid (intW L least most = (0, 6)) := by rw [Hid]; unfold intW; rw [if_neg hlm, if_pos hwh]
    rw [hI.out]
    rw [hwh] at HWH
    clear hwh hI
    go_enter Tryz.func39, Tryz.ntmps39
    go_wp2_with (first
      | (go_at_call 76; refine (HWH.out w).mono ?_; rintro e w1 ⟨rfl, hB1⟩)
      | fail)
    go_ret2
    exact ⟨rfl, hB1⟩
  rw [hwh] at HWH
  have hz : (bN L).size = L.length := rfl
  have HI : Hid (intW L least most = if valB L < -9223372036854775808 ∨ 9223372036854775807 < valB L ∨ valB L < least ∨ most < valB L then (0, 7) else (valB L, 0)) := by
    rw [Hid]; unfold intW; rw [if_neg hlm, if_neg (by rw [hwh]; decide)]
  by_cases h20 : 20 < L.length
  · have e20 : (20 : Int) < (L.length : Int) := by omega
    have hI : Hid (intW L least most = (0, 7)) := by
      have := whole_long hwh h20
      rw [Hid, HI.out, if_pos (by omega)]
    rw [hI.out]
    clear hwh hI h20
    go_enter Tryz.func39, Tryz.ntmps39
    go_wp2_with (first
      | (go_at_call 76; refine (HWH.out w).mono ?_; rintro e w1 ⟨rfl, hB1⟩)
      | fail)
    go_ret2
    exact ⟨rfl, hB1⟩
  have e20 : ¬ (20 : Int) < (L.length : Int) := by omega
  have HWt := Lib.hid hwh
  have hw1 := hwh
  unfold wholeB natB at hw1
  simp only [Bool.and_eq_true, decide_eq_true_eq] at hw1
  obtain ⟨⟨⟨hall, hne⟩, _⟩, _⟩ := hw1
  have hL0 : L ≠ [] := fun e => hne (by rw [e]; rfl)
  have hx : 0 < (bN L).size := by
    have : L.length ≠ 0 := fun e => hL0 (List.length_eq_zero_iff.1 e)
    show 0 < L.length
    omega
  obtain ⟨N, hN⟩ : ∃ N, Hid (negB L = N) := ⟨_, Lib.hid rfl⟩
  have q45 : ((((bN L)[0]'hx).toNat : Int) == 45) = N := by
    have e1 : L.head? = some ((bN L)[0]'hx) := by rw [List.head?_eq_getElem?, List.getElem?_eq_getElem hx]; rfl
    rw [← hN.out]
    unfold negB
    rw [e1]
    by_cases h : (bN L)[0]'hx = 45
    · rw [h]; rfl
    · have h9 : ((bN L)[0]'hx).toNat ≠ 45 := fun e => h (UInt8.toNat_inj.1 e)
      have h8 : ((((bN L)[0]'hx).toNat : Int) == 45) = false := by simp; omega
      rw [h8]
      exact (decide_eq_false (fun e => h (Option.some.inj e))).symm
  have HALL := Lib.hid (fun (k : Nat) (hk : k < L.length) (hf : (if N then 1 else 0) ≤ k) => (by
    have hin : L[k] ∈ magL L := by
      rw [magL_drop, hN.out]
      refine List.mem_iff_getElem.2 ⟨k - (if N then 1 else 0), by rw [List.length_drop]; omega, ?_⟩
      rw [List.getElem_drop]
      congr 1
      omega
    exact List.all_eq_true.1 hall _ hin : digB L[k] = true))
  have HPA : Hid (partN N L L.length = valB L) := by rw [Hid, ← hN.out]; exact part_all L
  have HS1 : Hid (N = true → partN N L 1 = 0 ∧ digB (L[0]'hx) = false) := Lib.hid (fun h => by
    refine ⟨by rw [h]; exact part_sign (hN.out.trans h), ?_⟩
    have hn := hN.out.trans h
    unfold negB at hn
    have hn := of_decide_eq_true hn
    rw [List.head?_eq_getElem?, List.getElem?_eq_getElem hx] at hn
    rw [Option.some.inj hn]
    decide)
  clear hwh hall hne hL0 h20
  go_enter Tryz.func39, Tryz.ntmps39
  go_wp2_with (first
    | (go_at_call 76; refine (HWH.out w).mono ?_; rintro e w1 ⟨rfl, hB1⟩)
    | fail)
  go_loopw [8, 9] (fun v i wr => ∃ k : Nat, k ≤ L.length ∧ i = .int .i64 k ∧ v = .int .i64 (IntKind.i64.wrap (partN N L k)) ∧ Below w1.heap.size w1 wr) (fun _ i _ => L.length - (intOf i).toNat)
  case atStart => exact ⟨0, Nat.zero_le _, rfl, by rw [part_zero]; rfl, Below.refl _ _⟩
  case round =>
    obtain ⟨k, hk, rfl, rfl, hB⟩ := hrel
    by_cases hlt : k < L.length
    · have hk' : k < (bN L).size := hlt
      have HD := Lib.hid (fun (w' : World) => (rdigitN_any (L[k]'hlt) w' : Calls Tryz.prog 77 #[.int .u8 (((bN L)[k]'hk').toNat : Int)] w' (Ret (.bool (digB (L[k]'hlt))) w')))
      obtain ⟨n, hn⟩ : ∃ n, Hid (IntKind.i64.wrap (partN N L k) = n) := ⟨_, Lib.hid rfl⟩
      rw [hn.out]
      cases hd : digB (L[k]'hlt)
      · have hNt : N = true ∧ k = 0 := by
          by_cases hf : (if N then 1 else 0) ≤ k
          · have := HALL.out k hlt hf
            rw [hd] at this; cases this
          · cases N
            · simp at hf
            · simp at hf; exact ⟨rfl, hf⟩
        have hnx : Hid (IntKind.i64.wrap (partN N L (k + 1)) = n) := by
          obtain ⟨e1, e2⟩ := hNt
          rw [Hid, ← hn.out, e2, (HS1.out e1).1, part_zero]
        rw [hd] at HD
        clear hd hNt
        go_wp2_with (first
          | (go_at_call 77; refine (HD.out _).mono ?_; rintro e w2 ⟨rfl, hB2⟩)
          | fail)
        go_roundw
        case rel => exact ⟨k + 1, by omega, by go_num, by rw [hnx.out], hB.trans (hB2.mono hB.size)⟩
        case measure => simp [intOf]; omega
      · have hf : (if N then 1 else 0) ≤ k := by
          cases N
          · simp
          · apply Classical.byContradiction
            intro hc
            have h0 : k = 0 := by simp at hc; exact hc
            subst h0
            have h9 := (HS1.out rfl).2
            have h8 : digB (L[0]'hlt) = true := hd
            have h7 : false = true := h9.symm.trans h8
            cases h7
        have hnx := Lib.hid (part_next (N := N) hlt hf)
        have hst := Lib.hid (wrap_step (partN N L k) (sgN N ((L[k]'hlt).toNat - 48)))
        have hd2 := hd
        simp only [digB, Bool.and_eq_true, decide_eq_true_eq] at hd2
        have hu8 : IntKind.u8.wrap ((((bN L)[k]'hk').toNat : Int) - 48) = (((bN L)[k]'hk').toNat : Int) - 48 := by
          have e : (bN L)[k]'hk' = L[k]'hlt := rfl
          rw [e]
          exact IntWalk.u8_in _ (by omega)
        rw [hd] at HD
        clear hd
        have ek' : (((bN L)[k]'hk').toNat : Int) = ((L[k]'hlt).toNat : Int) := rfl
        cases N
        · have hq : Hid (wrap64 (wrap64 (10 * n) + wrap64 ((((bN L)[k]'hk').toNat : Int) - 48)) = IntKind.i64.wrap (partN false L (k + 1))) := by
            rw [Hid, hnx.out, ← hst.out, hn.out, IntWalk.i64_left, IntWalk.i64_left, ek']
            have : wrap64 (((L[k]'hlt).toNat : Int) - 48) = sgN false ((L[k]'hlt).toNat - 48) := by
              unfold sgN wrap64; simp; omega
            rw [this]
          clear ek' hd2 hnx hst
          go_wp2_with (first
            | (go_at_call 77; refine (HD.out _).mono ?_; rintro e w2 ⟨rfl, hB2⟩)
            | fail)
          go_roundw
          case rel => exact ⟨k + 1, by omega, by go_num, by rw [hq.out], hB.trans (hB2.mono hB.size)⟩
          case measure => simp [intOf]; omega
        · have hq : Hid (wrap64 (wrap64 (10 * n) + wrap64 (-wrap64 ((((bN L)[k]'hk').toNat : Int) - 48))) = IntKind.i64.wrap (partN true L (k + 1))) := by
            rw [Hid, hnx.out, ← hst.out, hn.out, IntWalk.i64_left, IntWalk.i64_left, ek']
            have : wrap64 (-wrap64 (((L[k]'hlt).toNat : Int) - 48)) = sgN true ((L[k]'hlt).toNat - 48) := by
              unfold sgN wrap64; simp; omega
            rw [this]
          clear ek' hd2 hnx hst
          go_wp2_with (first
            | (go_at_call 77; refine (HD.out _).mono ?_; rintro e w2 ⟨rfl, hB2⟩)
            | fail)
          go_roundw
          case rel => exact ⟨k + 1, by omega, by go_num, by rw [hq.out], hB.trans (hB2.mono hB.size)⟩
          case measure => simp [intOf]; omega
    · have ek : k = L.length := by omega
      subst ek
      rw [HPA.out]
      have hrg := wrap_range (valB L)
      have hcmp : ((bN (Lib.itoa (IntKind.i64.wrap (valB L)))).toList == (bN L).toList) = decide (IntKind.i64.wrap (valB L) = valB L) := by
        rw [ByteArray.toList_eq, ByteArray.toList_eq]
        show (Lib.itoa (IntKind.i64.wrap (valB L)) == L) = _
        by_cases h : IntKind.i64.wrap (valB L) = valB L
        · rw [decide_eq_true h, h, itoa_of HWt.out]; exact beq_self_eq_true L
        · have : Lib.itoa (IntKind.i64.wrap (valB L)) ≠ L := fun e => h ((itoa_facts _).2.symm.trans (congrArg valB e))
          rw [decide_eq_false h]; exact beq_false_of_ne this
      by_cases hin : -9223372036854775808 ≤ valB L ∧ valB L ≤ 9223372036854775807
      · have hw9 : IntKind.i64.wrap (valB L) = valB L := IntWalk.i64_in _ hin
        rw [hw9] at hcmp hrg ⊢
        obtain ⟨v, hv⟩ : ∃ v, Hid (valB L = v) := ⟨_, Lib.hid rfl⟩
        rw [hv.out] at hcmp hrg HI hin ⊢
        have HDG := Lib.hid (fun w' => rdig_any v hin.1 hin.2 w')
        have hcmp' : ((bN (Lib.itoa v)).toList == (bN L).toList) = true := by rw [hcmp]; exact decide_eq_true rfl
        obtain ⟨X, hX⟩ : ∃ X, Hid (bN (Lib.itoa v) = X) := ⟨_, Lib.hid rfl⟩
        rw [hX.out] at hcmp' HDG
        have HIN := Lib.hid hin
        clear hcmp hw9 hrg hin
        by_cases c1 : v < least
        · have hI : Hid (intW L least most = (0, 7)) := by have := HIN.out; rw [Hid, HI.out, if_pos (by omega)]
          go_wp2_with (first
            | (go_at_call 59; refine (HDG.out _).mono ?_; rintro e w2 ⟨rfl, hB2⟩)
            | fail)
          go_ret2
          rw [hI.out]
          exact ⟨rfl, hB1.trans ((hB.trans (hB2.mono hB.size)).mono hB1.size)⟩
        · by_cases c2 : most < v
          · have hI : Hid (intW L least most = (0, 7)) := by have := HIN.out; rw [Hid, HI.out, if_pos (by omega)]
            go_wp2_with (first
              | (go_at_call 59; refine (HDG.out _).mono ?_; rintro e w2 ⟨rfl, hB2⟩)
              | fail)
            go_ret2
            rw [hI.out]
            exact ⟨rfl, hB1.trans ((hB.trans (hB2.mono hB.size)).mono hB1.size)⟩
          · have hI : Hid (intW L least most = (v, 0)) := by have := HIN.out; rw [Hid, HI.out, if_neg (by omega)]
            go_wp2_with (first
              | (go_at_call 59; refine (HDG.out _).mono ?_; rintro e w2 ⟨rfl, hB2⟩)
              | fail)
            go_ret2
            rw [hI.out]
            exact ⟨rfl, hB1.trans ((hB.trans (hB2.mono hB.size)).mono hB1.size)⟩
      · have hne : IntKind.i64.wrap (valB L) ≠ valB L := fun e => by rw [e] at hrg; exact hin hrg
        obtain ⟨v, hv⟩ : ∃ v, Hid (IntKind.i64.wrap (valB L) = v) := ⟨_, Lib.hid rfl⟩
        have hI : Hid (intW L least most = (0, 7)) := by rw [Hid, HI.out, if_pos (by omega)]
        have hcmp' : ((bN (Lib.itoa v)).toList == (bN L).toList) = false := by rw [← hv.out, hcmp]; exact decide_eq_false hne
        rw [hv.out] at hrg ⊢
        have HDG := Lib.hid (fun w' => rdig_any v hrg.1 hrg.2 w')
        obtain ⟨X, hX⟩ : ∃ X, Hid (bN (Lib.itoa v) = X) := ⟨_, Lib.hid rfl⟩
        rw [hX.out] at hcmp' HDG
        clear hcmp hne hrg hin
        go_wp2_with (first
          | (go_at_call 59; refine (HDG.out _).mono ?_; rintro e w2 ⟨rfl, hB2⟩)
          | fail)
        go_ret2
        rw [hI.out]
        exact ⟨rfl, hB1.trans ((hB.trans (hB2.mono hB.size)).mono hB1.size)⟩
end Go.Proofs.YtoccplfnjammjaaGreatDoor
