/- Plain: what is read of a list of numbers. -/
import Derived.Test.YtohcmfobnkaaiaaGreatDoorWdP
set_option linter.unusedSimpArgs false
set_option linter.unusedVariables false
namespace Go.Proofs.YtohcmfobnkaaiaaGreatDoor
open Go

theorem natA_lt : ∀ (a b : List UInt8) (acc acc' : Nat), a.length = b.length → a.all digB = true → acc < acc' → natA acc a < natA acc' b
  | [], [], acc, acc', _, _, h => h
  | [], _ :: _, _, _, h, _, _ => by simp at h
  | _ :: _, [], _, _, h, _, _ => by simp at h
  | c :: r, d :: q, acc, acc', hl, ha, h => by
    simp only [List.all_cons, Bool.and_eq_true] at ha
    have hc := ha.1
    unfold digB at hc
    simp only [Bool.and_eq_true, decide_eq_true_eq] at hc
    show natA (acc * 10 + (c.toNat - 48)) r < natA (acc' * 10 + (d.toNat - 48)) q
    exact natA_lt r q _ _ (by simpa using hl) ha.2 (by omega)
theorem natA_lex : ∀ (a b : List UInt8) (acc : Nat), a.length = b.length → a.all digB = true → b.all digB = true → Op.bytesLess a b = true → natA acc a < natA acc b
  | [], [], acc, _, _, _, h => by simp [Op.bytesLess] at h
  | [], _ :: _, _, h, _, _, _ => by simp at h
  | _ :: _, [], _, h, _, _, _ => by simp at h
  | c :: r, d :: q, acc, hl, ha, hb, h => by
    simp only [List.all_cons, Bool.and_eq_true] at ha hb
    have hc := ha.1
    have hd := hb.1
    unfold digB at hc hd
    simp only [Bool.and_eq_true, decide_eq_true_eq] at hc hd
    show natA (acc * 10 + (c.toNat - 48)) r < natA (acc * 10 + (d.toNat - 48)) q
    simp only [Op.bytesLess, Bool.or_eq_true, Bool.and_eq_true, decide_eq_true_eq, beq_iff_eq] at h
    rcases h with h | ⟨rfl, h⟩
    · have : c.toNat < d.toNat := UInt8.lt_iff_toNat_lt.1 h
      exact natA_lt r q _ _ (by simpa using hl) ha.2 (by omega)
    · exact natA_lex r q _ (by simpa using hl) ha.2 hb.2 h
theorem natB_all {t : List UInt8} (h : natB t = true) : t.all digB = true := by
  unfold natB at h
  simp only [Bool.and_eq_true] at h
  exact h.1.1
theorem natB_len {t : List UInt8} (h : natB t = true) : t.length = Lib.nDigits (natV t) := by
  rw [← Lib.decDigits_length, nat_dec h]
theorem nDigW_le : ∀ (k u : Nat), u < 10 ^ (k + 1) → Lib.nDigits u ≤ k + 1
  | 0, u, h => by rw [Lib.nDigits_small (by simpa using h)]; omega
  | k + 1, u, h => by
    by_cases h9 : u < 10
    · rw [Lib.nDigits_small h9]; omega
    · rw [Lib.nDigits_big h9]
      have := nDigW_le k (u / 10) (by rw [Nat.pow_succ] at h; omega)
      omega
theorem nDig_mono {u v : Nat} (h : Lib.nDigits u < Lib.nDigits v) : u < v := by
  rcases Nat.lt_or_ge u v with h1 | h1
  · exact h1
  · exfalso
    have h2 := Lib.lt_pow_nDigits u
    have h3 := Lib.nDigits_pos u
    have h4 : Lib.nDigits v ≤ Lib.nDigits u := by
      obtain ⟨k, hk⟩ : ∃ k, Lib.nDigits u = k + 1 := ⟨Lib.nDigits u - 1, by omega⟩
      rw [hk] at h2 ⊢
      exact nDigW_le k v (by omega)
    omega
theorem ltB_val {a b : List UInt8} (ha : natB a = true) (hb : natB b = true) (h : ltB a b = true) : natV a < natV b := by
  unfold ltB at h
  simp only [Bool.or_eq_true, Bool.and_eq_true, decide_eq_true_eq] at h
  rcases h with h | ⟨h1, h2⟩
  · rw [natB_len ha, natB_len hb] at h; exact nDig_mono h
  · exact natA_lex a b 0 h1 (natB_all ha) (natB_all hb) h2
/-- a whole number that is not below zero has no sign -/
theorem whole_pos {s : List UInt8} (h : wholeB s = true) (h0 : 0 ≤ valB s) : negB s = false := by
  cases hn : negB s
  · rfl
  · exfalso
    unfold wholeB at h
    unfold valB at h0
    rw [hn] at h h0
    simp only [if_true, Bool.true_and, Bool.and_eq_true, Bool.not_eq_true', decide_eq_false_iff_not] at h h0
    have h1 : natV (magL s) = 0 := by omega
    have h2 := nat_dec h.1
    rw [h1] at h2
    rw [Lib.decDigits, dif_pos (by omega)] at h2
    exact h.2 h2.symm
theorem natP_true {s : List UInt8} (h : (natP s).2 = true) : natB s = true ∧ (natP s).1 = min (natV s : Int) 1099511627776 := by
  unfold natP at h ⊢
  unfold intW at h ⊢
  by_cases hw : wholeB s = false
  · simp [hw] at h
  · have hw' : wholeB s = true := by simpa using hw
    have hm : negB s = false → magL s = s ∧ valB s = natV s := fun hn => ⟨by unfold magL; rw [hn]; rfl, by unfold valB magL; rw [hn]; rfl⟩
    have hmin : ¬ ((1099511627776 : Int) < 0) := by omega
    simp only [hmin, if_false, hw'] at h ⊢
    by_cases hr : valB s < -9223372036854775808 ∨ 9223372036854775807 < valB s ∨ valB s < 0 ∨ 1099511627776 < valB s
    · simp only [hr, if_true, true_and, Bool.true_eq_false, if_false] at h ⊢
      by_cases h45 : s.head? ≠ some 45
      · have hn : negB s = false := by unfold negB; exact decide_eq_false h45
        obtain ⟨m1, m2⟩ := hm hn
        refine ⟨by unfold wholeB at hw'; rw [m1] at hw'; simp only [Bool.and_eq_true] at hw'; exact hw'.1, ?_⟩
        rw [if_pos h45]
        simp only
        omega
      · rw [if_neg h45] at h
        simp at h
    · simp only [hr, if_false, Bool.true_eq_false] at h ⊢
      have hv : 0 ≤ valB s := by omega
      obtain ⟨m1, m2⟩ := hm (whole_pos hw' hv)
      refine ⟨by unfold wholeB at hw'; rw [m1] at hw'; simp only [Bool.and_eq_true] at hw'; exact hw'.1, ?_⟩
      rw [if_neg (by simp)]
      simp only
      omega
structure PartOk (x : Part) : Prop where
  a0 : 0 ≤ x.a
  ab : x.a ≤ x.b
  t1 : 1 ≤ x.t
  t2 : x.t ≤ 1099511627776
/-- a part that is read, and does not end too far -/
theorem read_ok {s : List UInt8} (h : (readP s).2 = true) (hb : (readP s).1.b ≤ 9999) : PartOk (readP s).1 := by
  unfold readP at h hb ⊢
  simp only at h hb ⊢
  split at h
  · rename_i hk
    simp only [hk, if_true] at hb ⊢
    obtain ⟨h1, h2⟩ := natP_true h
    exact ⟨by simp only; omega, by simp only; omega, by simp only; omega, by simp only; omega⟩
  · rename_i hk
    simp only [hk, if_false] at hb ⊢
    split at h
    · rename_i hc
      simp only [hc, if_true] at hb ⊢
      simp only [Bool.and_eq_true] at h
      obtain ⟨h1, h2⟩ := natP_true h.1
      obtain ⟨h3, h4⟩ := natP_true h.2.1
      have h5 := ltB_val h1 h3 h.2.2
      exact ⟨by simp only; omega, by simp only; omega, by simp only; omega, by simp only; omega⟩
    · rename_i hc
      simp only [hc, if_false] at hb ⊢
      simp only [Bool.and_eq_true, decide_eq_true_eq] at h
      obtain ⟨h1, h2⟩ := natP_true h.1
      obtain ⟨h3, h4⟩ := natP_true h.2.1
      exact ⟨by simp only; omega, by simp only; omega, by simp only; omega, by simp only; omega⟩
/-- parts are never more than 2^40 so many times, and end at most there -/
theorem read_bd (s : List UInt8) (h : (readP s).2 = true) : 0 ≤ (readP s).1.a ∧ (readP s).1.a ≤ 1099511627776 ∧ 0 ≤ (readP s).1.b ∧ (readP s).1.b ≤ 1099511627776 := by
  unfold readP at h ⊢
  simp only at h ⊢
  split at h
  · rename_i hk
    simp only [hk, if_true]
    obtain ⟨h1, h2⟩ := natP_true h
    omega
  · rename_i hk
    simp only [hk, if_false]
    split at h
    · rename_i hc
      simp only [hc, if_true]
      simp only [Bool.and_eq_true] at h
      obtain ⟨h1, h2⟩ := natP_true h.1
      obtain ⟨h3, h4⟩ := natP_true h.2.1
      omega
    · rename_i hc
      simp only [hc, if_false]
      simp only [Bool.and_eq_true] at h
      obtain ⟨h3, h4⟩ := natP_true h.2.1
      omega
theorem min501 {t d : Int} (h1 : 1 ≤ t) (h2 : 1 ≤ d) (h : min t 501 * d ≤ 500) : t ≤ 500 ∧ d ≤ 500 ∧ t * d ≤ 500 := by
  by_cases ht : t ≤ 501
  · have e : min t 501 = t := by omega
    rw [e] at h
    have h3 : 1 * d ≤ t * d := Int.mul_le_mul_of_nonneg_right h1 (by omega)
    have h4 : t * 1 ≤ t * d := Int.mul_le_mul_of_nonneg_left h2 (by omega)
    exact ⟨by omega, by omega, h⟩
  · exfalso
    have e : min t 501 = 501 := by omega
    rw [e] at h
    omega
theorem upTo_len (a b : Int) : (upTo a b).length = (b - a + 1).toNat := by simp [upTo]
theorem partL_len (x : Part) : (partL x).length = x.t.toNat * (x.b - x.a + 1).toNat := by
  unfold partL
  rw [List.length_flatMap]
  simp [upTo_len, List.map_const', List.sum_replicate_nat]
/-- how many they are together -/
theorem many_len : ∀ (l : List Part) (n m : Int), (∀ x ∈ l, PartOk x) → 0 ≤ n → n ≤ 500 → manyP n l = some m → (n + (l.flatMap partL).length = m ∧ m ≤ 500)
  | [], n, m, _, h0, h1, h => by simp [manyP] at h; subst h; simp; exact h1
  | x :: r, n, m, hp, h0, h1, h => by
    unfold manyP at h
    split at h
    · simp at h
    · rename_i hm
      have hx := hp x (by simp)
      obtain ⟨p1, p2, p3, p4⟩ := hx
      have hge : 0 ≤ min x.t 501 * (x.b - x.a + 1) := Int.mul_nonneg (by omega) (by omega)
      obtain ⟨q1, q2, q3⟩ := min501 (t := x.t) (d := x.b - x.a + 1) p3 (by omega) (by omega)
      have ih := many_len r _ m (fun y hy => hp y (by simp [hy])) (by omega) (by omega) h
      have e : ((partL x).length : Int) = min x.t 501 * (x.b - x.a + 1) := by
        rw [partL_len, Int.natCast_mul, Int.toNat_of_nonneg (by omega), Int.toNat_of_nonneg (by omega), show min x.t 501 = x.t by omega]
      rw [List.flatMap_cons, List.length_append]
      omega
end Go.Proofs.YtohcmfobnkaaiaaGreatDoor
