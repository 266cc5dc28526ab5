/- torchonref01: Digits, whole, Int. -/
import Derived.Test.YtmfklcnocekdlaaGreatDoorNum
import Derived.Test.YtmfklcnocekdlaaGreatDoorOldA5
import Derived.Lib.ItoaLen
set_option linter.unusedSimpArgs false
set_option linter.unusedVariables false
namespace Go.Proofs.YtmfklcnocekdlaaGreatDoor
open Go Go.RowKit Tor

theorem bN_app (a b : List UInt8) : bN a ++ bN b = bN (a ++ b) := ByteArray.ext (Array.ext' (by rw [ByteArray.data_append, Array.toList_append]; rfl))
theorem itoa_size (n : Int) (h0 : -9223372036854775808 ≤ n) (h1 : n ≤ 9223372036854775807) : (bN (Lib.itoa n)).size ≤ 21 := Lib.itoa_length_le n h0 h1
theorem conv_byte (g cap : Nat) (c : UInt8) (n : Int) (hn : (c.toNat : Int) = n) (w : World) (h : w.cell? ⟨g, 0, none⟩ = some (.int .u8 n)) :
    (convert 57 9 (.slice (some ⟨g, 0, none⟩) 1 cap)).run Tryz.prog w = .ok (.string ⟨#[c]⟩) w := by
  subst hn
  have := run_convert_bytes_back (P := Tryz.prog) w 57 9 5 ⟨g, 0, none⟩ cap [c] Tryz.underlying57 Tryz.underlying5 Tryz.underlying9 (fun j hj => by
    match j, hj with
    | 0, _ => simpa [Addr.add] using h)
  simpa using this
set_option maxRecDepth 100000 in
theorem rdig_small (n : Nat) (h : n < 10) (w : World) : Calls Tryz.prog 80 #[.int .i64 n] w (Ret (.string (bN (Lib.itoa n))) w) := by
  have b1 : ¬ (n : Int) < 0 := by omega
  have b2 : (n : Int) < 10 := by omega
  have e1 : Lib.itoa n = [UInt8.ofNat (48 + n)] := by rw [Lib.itoa_nonneg, Lib.decDigits_one h]
  have hS : Hid (bN (Lib.itoa n) = ⟨#[UInt8.ofNat (48 + n)]⟩) := by rw [Hid, e1]; rfl
  rw [hS.out]
  have hd : ((UInt8.ofNat (48 + n)).toNat : Int) = 48 + (n : Int) := by rw [dig_of h]; omega
  have hw : IntKind.u8.wrap (48 + (n : Int)) = 48 + (n : Int) := by
    have h9 : ∀ k : Fin 10, IntKind.u8.wrap (48 + ((k.1 : Nat) : Int)) = 48 + ((k.1 : Nat) : Int) := by decide
    exact h9 ⟨n, h⟩
  have hcb : (convert 57 9 (.slice (some ⟨w.heap.size, 0, none⟩) 1 1)).run Tryz.prog (w.alloc (.cells #[.int .u8 (48 + (n : Int))] 5)) = .ok (.string ⟨#[UInt8.ofNat (48 + n)]⟩) _ := conv_byte w.heap.size 1 _ _ hd _ (cell_new rfl)
  clear e1 hd
  go_enter Tryz.func80, Tryz.ntmps80
  go_wp2_with fail
  go_ret
  exact Ret.val rfl (by (repeat' first | exact Below.refl _ _ | apply Below.drew | (refine Below.setCells ?_ _ _ ?_) | (refine Below.setCell ?_ ?_ _) | (refine Below.alloc ?_ ?_ _) | (simp; done) | (simp; omega)))
set_option maxRecDepth 100000 in
theorem rdig_nat (n : Nat) : n ≤ 9223372036854775807 → ∀ w : World, Calls Tryz.prog 80 #[.int .i64 n] w (Ret (.string (bN (Lib.itoa n))) w) := by
  induction n using Nat.strongRecOn with
  | _ n ih =>
    intro hn w
    by_cases h : n < 10
    · exact rdig_small n h w
    have b1 : ¬ (n : Int) < 0 := by omega
    have b2 : ¬ (n : Int) < 10 := by omega
    have IH := Lib.hid (fun w' => (by have := ih (n / 10) (by omega) (by omega) w'; rwa [Int.natCast_ediv] at this : Calls Tryz.prog 80 #[.int .i64 ((n : Int) / 10)] w' (Ret (.string (bN (Lib.itoa ((n : Int) / 10)))) w')))
    have IM := Lib.hid (fun w' => (by have := rdig_small (n % 10) (by omega) w'; rwa [Int.natCast_emod] at this : Calls Tryz.prog 80 #[.int .i64 ((n : Int) % 10)] w' (Ret (.string (bN (Lib.itoa ((n : Int) % 10)))) w')))
    clear ih
    have e : Hid (bN (Lib.itoa n) = bN (Lib.itoa ((n : Int) / 10)) ++ bN (Lib.itoa ((n : Int) % 10))) := by
      rw [Hid, bN_app]
      congr 1
      have h1 : (n : Int) / 10 = ((n / 10 : Nat) : Int) := by omega
      have h2 : (n : Int) % 10 = ((n % 10 : Nat) : Int) := by omega
      rw [h1, h2, Lib.itoa_nonneg, Lib.itoa_nonneg, Lib.itoa_nonneg, Lib.decDigits_one (i := n % 10) (by omega)]
      rw [Lib.decDigits, dif_neg h]
    rw [e.out]
    have z1 : (bN (Lib.itoa ((n : Int) / 10))).size ≤ 21 := itoa_size _ (by omega) (by omega)
    have z2 : (bN (Lib.itoa ((n : Int) % 10))).size ≤ 21 := itoa_size _ (by omega) (by omega)
    generalize bN (Lib.itoa ((n : Int) / 10)) = S1 at *
    generalize bN (Lib.itoa ((n : Int) % 10)) = S2 at *
    clear e
    have z3 : S1.size + S2.size ≤ 9223372036854775807 := by omega
    have z4 : S1.size + S2.size ≤ 140737488355328 := by omega
    go_enter Tryz.func80, Tryz.ntmps80
    go_wp2_with fail
    refine (IH.out w).mono ?_
    rintro e w1 ⟨rfl, hB1⟩
    go_wp2_with fail
    refine (IM.out w1).mono ?_
    rintro e w2 ⟨rfl, hB2⟩
    go_wp2_with fail
    go_ret
    exact Ret.val rfl (hB1.trans (hB2.mono hB1.size))
set_option maxRecDepth 100000 in
theorem rdig_neg (n : Nat) : 1 ≤ n → n ≤ 9223372036854775808 → ∀ w : World, Calls Tryz.prog 80 #[.int .i64 (-(n : Int))] w (Ret (.string (bN (Lib.itoa (-(n : Int))))) w) := by
  induction n using Nat.strongRecOn with
  | _ n ih =>
    intro h1 hn w
    have b1 : (-(n : Int)) < 0 := by omega
    by_cases h : n < 10
    · have b2 : (-10 : Int) < -(n : Int) := by omega
      have IM := Lib.hid (fun w' => rdig_small n h w')
      have e : Hid (bN (Lib.itoa (-(n : Int))) = ⟨#[45]⟩ ++ bN (Lib.itoa n)) := by
        have e0 : (⟨#[45]⟩ : ByteArray) = bN [45] := rfl
        rw [Hid, e0, bN_app]
        congr 1
        rw [Lib.itoa_nonneg, Lib.itoa_neg n h1]
        rfl
      have hwr : IntKind.i64.wrap (- -(n : Int)) = n := by rw [Int.neg_neg]; exact IntWalk.i64_in _ (by omega)
      have hwr2 : - -(n : Int) = n := Int.neg_neg _
      rw [e.out]
      have z1 : (bN (Lib.itoa n)).size ≤ 21 := itoa_size _ (by omega) (by omega)
      generalize bN (Lib.itoa n) = S1 at *
      clear e
      have z3 : (⟨#[45]⟩ : ByteArray).size + S1.size ≤ 9223372036854775807 := by show 1 + S1.size ≤ _; omega
      have z5 : 1 + S1.size ≤ 9223372036854775807 := by omega
      go_enter Tryz.func80, Tryz.ntmps80
      go_wp2_with fail
      refine (IM.out w).mono ?_
      rintro e w1 ⟨rfl, hB1⟩
      go_wp2_with fail
      go_ret
      exact Ret.val rfl hB1
    · have b2 : ¬ (-10 : Int) < -(n : Int) := by omega
      have IH := Lib.hid (fun w' => (by have := ih (n / 10) (by omega) (by omega) (by omega) w'; rwa [Int.natCast_ediv] at this : Calls Tryz.prog 80 #[.int .i64 (-((n : Int) / 10))] w' (Ret (.string (bN (Lib.itoa (-((n : Int) / 10))))) w')))
      have IM := Lib.hid (fun w' => (by have := rdig_small (n % 10) (by omega) w'; rwa [Int.natCast_emod] at this : Calls Tryz.prog 80 #[.int .i64 ((n : Int) % 10)] w' (Ret (.string (bN (Lib.itoa ((n : Int) % 10)))) w')))
      have e : Hid (bN (Lib.itoa (-(n : Int))) = bN (Lib.itoa (-((n : Int) / 10))) ++ bN (Lib.itoa ((n : Int) % 10))) := by
        rw [Hid, bN_app]
        congr 1
        have q1 : (n : Int) / 10 = ((n / 10 : Nat) : Int) := by omega
        have q2 : (n : Int) % 10 = ((n % 10 : Nat) : Int) := by omega
        rw [q1, q2, Lib.itoa_nonneg, Lib.itoa_neg _ h1, Lib.itoa_neg _ (by omega), Lib.decDigits_one (i := n % 10) (by omega), List.cons_append]
        congr 1
        rw [Lib.decDigits, dif_neg h]
      rw [e.out]
      have z1 : (bN (Lib.itoa (-((n : Int) / 10)))).size ≤ 21 := itoa_size _ (by omega) (by omega)
      have z2 : (bN (Lib.itoa ((n : Int) % 10))).size ≤ 21 := itoa_size _ (by omega) (by omega)
      generalize bN (Lib.itoa (-((n : Int) / 10))) = S1 at *
      generalize bN (Lib.itoa ((n : Int) % 10)) = S2 at *
      clear e ih
      have z3 : S1.size + S2.size ≤ 9223372036854775807 := by omega
      go_enter Tryz.func80, Tryz.ntmps80
      go_wp2_with fail
      refine (IH.out w).mono ?_
      rintro e w1 ⟨rfl, hB1⟩
      go_wp2_with fail
      refine (IM.out w1).mono ?_
      rintro e w2 ⟨rfl, hB2⟩
      go_wp2_with fail
      go_ret
      exact Ret.val rfl (hB1.trans (hB2.mono hB1.size))
theorem rdig_any (n : Int) (h0 : -9223372036854775808 ≤ n) (h1 : n ≤ 9223372036854775807) (w : World) : Calls Tryz.prog 80 #[.int .i64 n] w (Ret (.string (bN (Lib.itoa n))) w) := by
  by_cases h : n < 0
  · obtain ⟨k, rfl⟩ : ∃ k : Nat, n = -(k : Int) := ⟨n.natAbs, by omega⟩
    exact rdig_neg k (by omega) (by omega) w
  · obtain ⟨k, rfl⟩ : ∃ k : Nat, n = k := ⟨n.toNat, by omega⟩
    exact rdig_nat k (by omega) w
end Go.Proofs.YtmfklcnocekdlaaGreatDoor
