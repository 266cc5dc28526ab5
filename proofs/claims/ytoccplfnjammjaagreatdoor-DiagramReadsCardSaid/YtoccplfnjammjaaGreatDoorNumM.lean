/- Plain: whole numbers and their digits. -/
import Derived.Lib.ParseIntB
import Derived.Lib.ItoaNum
import Derived.Lib.ItoaMem
set_option linter.unusedSimpArgs false
set_option linter.unusedVariables false
namespace Go.Proofs.YtoccplfnjammjaaGreatDoor
open Go

def digB (c : UInt8) : Bool := decide (48 ≤ c.toNat) && decide (c.toNat ≤ 57)
/-- what digits spell, behind others -/
def natA (acc : Nat) (l : List UInt8) : Nat := l.foldl (fun a c => a * 10 + (c.toNat - 48)) acc
def natV (l : List UInt8) : Nat := natA 0 l
/-- the digits of a number from 0 on -/
def natB (t : List UInt8) : Bool := t.all digB && decide (t ≠ []) && !(decide (t.head? = some 48) && decide (1 < t.length))
def negB (s : List UInt8) : Bool := decide (s.head? = some 45)
def magL (s : List UInt8) : List UInt8 := if negB s then s.tail else s
/-- the digits of a whole number -/
def wholeB (s : List UInt8) : Bool := natB (magL s) && !(negB s && decide (magL s = [48]))
def valB (s : List UInt8) : Int := if negB s then -(natV (magL s) : Int) else natV (magL s)
/-- Int -/
def intW (s : List UInt8) (least most : Int) : Int × Int :=
  if most < least then (0, 2) else if wholeB s = false then (0, 6) else if valB s < -9223372036854775808 ∨ 9223372036854775807 < valB s ∨ valB s < least ∨ most < valB s then (0, 7) else (valB s, 0)

theorem natA_append (acc : Nat) (l m : List UInt8) : natA acc (l ++ m) = natA (natA acc l) m := by simp [natA, List.foldl_append]
theorem natA_ge : ∀ (l : List UInt8) (acc : Nat), acc ≤ natA acc l
  | [], acc => Nat.le_refl _
  | c :: r, acc => by
    have := natA_ge r (acc * 10 + (c.toNat - 48))
    show acc ≤ natA (acc * 10 + (c.toNat - 48)) r
    omega
theorem dig_of {u : Nat} (h : u < 10) : (UInt8.ofNat (48 + u)).toNat = 48 + u := by
  rw [UInt8.toNat_ofNat']
  omega
theorem dec_head : ∀ (u : Nat), u ≠ 0 → (Lib.decDigits u).head? ≠ some 48 := by
  intro u
  induction u using Nat.strongRecOn with
  | _ u ih =>
    intro hu
    by_cases h : u < 10
    · rw [Lib.decDigits, dif_pos h]
      simp only [List.head?_cons, ne_eq, Option.some.injEq]
      intro e
      have := congrArg UInt8.toNat e
      rw [dig_of h] at this
      have e48 : (48 : UInt8).toNat = 48 := rfl
      omega
    · rw [Lib.decDigits, dif_neg h]
      have h1 := ih (u / 10) (by omega) (by omega)
      cases hd : Lib.decDigits (u / 10) with
      | nil => have := congrArg List.length hd; rw [Lib.decDigits_length] at this; have := Lib.nDigits_pos (u / 10); simp at *; omega
      | cons c r => rw [hd] at h1; simpa using h1
theorem dec_all (u : Nat) : (Lib.decDigits u).all digB = true := by
  induction u using Nat.strongRecOn with
  | _ u ih =>
    by_cases h : u < 10
    · rw [Lib.decDigits, dif_pos h]
      simp [digB, dig_of h]; omega
    · rw [Lib.decDigits, dif_neg h, List.all_append, ih (u / 10) (by omega)]
      simp [digB, dig_of (u := u % 10) (by omega)]; omega
theorem dec_ne (u : Nat) : Lib.decDigits u ≠ [] := fun e => by
  have := congrArg List.length e
  rw [Lib.decDigits_length] at this
  have := Lib.nDigits_pos u
  simp at *
  omega
theorem dec_val (u : Nat) : natV (Lib.decDigits u) = u := by
  induction u using Nat.strongRecOn with
  | _ u ih =>
    by_cases h : u < 10
    · rw [Lib.decDigits, dif_pos h]
      simp [natV, natA, dig_of h]
      omega
    · rw [Lib.decDigits, dif_neg h]
      unfold natV at ih ⊢
      rw [natA_append, ih (u / 10) (by omega)]
      simp [natA, dig_of (u := u % 10) (by omega)]
      omega
theorem dec_natB (u : Nat) : natB (Lib.decDigits u) = true := by
  unfold natB
  rw [dec_all]
  by_cases hu : u = 0
  · subst hu
    have : Lib.decDigits 0 = [48] := by rw [Lib.decDigits_one (by omega)]; rfl
    rw [this]; rfl
  · have := dec_head u hu
    simp [dec_ne u, this]
theorem natA_pos {l : List UInt8} {acc : Nat} (h : 1 ≤ acc) : 1 ≤ natA acc l := Nat.le_trans h (natA_ge l acc)
/-- digits spell what they are written of -/
theorem dec_of : ∀ (k : Nat) (t : List UInt8), t.length = k → natB t = true → Lib.decDigits (natV t) = t
  | 0, t, hk, h => by
    have : t = [] := List.length_eq_zero_iff.1 hk
    subst this
    simp [natB] at h
  | 1, t, hk, h => by
    match t, hk with
    | [c], _ =>
      simp only [natB, List.all_cons, List.all_nil, Bool.and_true, Bool.and_eq_true, digB, decide_eq_true_eq] at h
      have hc := h.1.1
      have e : natV [c] = c.toNat - 48 := by simp [natV, natA]
      rw [e, Lib.decDigits_one (by omega)]
      congr 1
      apply UInt8.toNat_inj.1
      rw [dig_of (by omega)]
      omega
  | k + 2, t, hk, h => by
    obtain ⟨i, c, rfl⟩ : ∃ i c, t = i ++ [c] := by
      have hne : t ≠ [] := fun e => by rw [e] at hk; simp at hk
      exact ⟨t.dropLast, t.getLast hne, (List.dropLast_concat_getLast hne).symm⟩
    have hil : i.length = k + 1 := by simp at hk; omega
    have hine : i ≠ [] := fun e => by rw [e] at hil; simp at hil
    simp only [natB, List.all_append, List.all_cons, List.all_nil, Bool.and_true, Bool.and_eq_true, decide_eq_true_eq, Bool.not_eq_true', Bool.and_eq_false_iff, decide_eq_false_iff_not] at h
    obtain ⟨⟨⟨hi, hc⟩, _⟩, hh⟩ := h
    have hd := hc
    simp only [digB, Bool.and_eq_true, decide_eq_true_eq] at hd
    have hhead : i.head? ≠ some 48 := by
      rcases hh with hh | hh
      · cases i with
        | nil => exact absurd rfl hine
        | cons a r => simpa using hh
      · simp only [List.length_append, List.length_singleton] at hh; omega
    have hib : natB i = true := by
      unfold natB
      rw [hi]
      simp [hine, hhead]
    have ih := dec_of (k + 1) i hil hib
    have hp : 1 ≤ natV i := by
      match i, hine with
      | a :: r, _ =>
        simp only [List.all_cons, Bool.and_eq_true, digB, decide_eq_true_eq] at hi
        have ha : a.toNat ≠ 48 := fun e => hhead (by rw [List.head?_cons]; congr 1; exact UInt8.toNat_inj.1 e)
        show 1 ≤ natA (0 * 10 + (a.toNat - 48)) r
        exact natA_pos (by omega)
    have e : natV (i ++ [c]) = natV i * 10 + (c.toNat - 48) := by
      unfold natV
      rw [natA_append]
      rfl
    rw [e, Lib.decDigits, dif_neg (by omega)]
    have e1 : (natV i * 10 + (c.toNat - 48)) / 10 = natV i := by omega
    have e2 : (natV i * 10 + (c.toNat - 48)) % 10 = c.toNat - 48 := by omega
    rw [e1, e2, ih]
    congr 2
    apply UInt8.toNat_inj.1
    rw [dig_of (by omega)]
    omega
theorem nat_dec {t : List UInt8} (h : natB t = true) : Lib.decDigits (natV t) = t := dec_of _ t rfl h
theorem nat_head {t : List UInt8} (h : t.all digB = true) : negB t = false := by
  cases t with
  | nil => rfl
  | cons c r =>
    simp only [List.all_cons, Bool.and_eq_true, digB, decide_eq_true_eq] at h
    unfold negB
    rw [List.head?_cons]
    refine decide_eq_false (fun e => ?_)
    have e := Option.some.inj e
    subst e
    have : (45 : UInt8).toNat = 45 := rfl
    omega
theorem itoa_facts (n : Int) : wholeB (Lib.itoa n) = true ∧ valB (Lib.itoa n) = n := by
  by_cases hn : n < 0
  · have e : Lib.itoa n = 45 :: Lib.decDigits n.natAbs := by unfold Lib.itoa; rw [if_pos hn]
    have e1 : negB (Lib.itoa n) = true := by rw [e]; rfl
    have e2 : magL (Lib.itoa n) = Lib.decDigits n.natAbs := by unfold magL; rw [e1, e]; rfl
    unfold wholeB valB
    rw [e1, e2, dec_natB, dec_val]
    refine ⟨?_, by simp; omega⟩
    have : Lib.decDigits n.natAbs ≠ [48] := fun h => by
      have := congrArg natV h
      rw [dec_val] at this
      have e0 : natV [48] = 0 := rfl
      omega
    simp [this]
  · have e : Lib.itoa n = Lib.decDigits n.toNat := by unfold Lib.itoa; rw [if_neg hn]
    have e1 : negB (Lib.itoa n) = false := by rw [e]; exact nat_head (dec_all _)
    have e2 : magL (Lib.itoa n) = Lib.decDigits n.toNat := by unfold magL; rw [e1, e]; rfl
    unfold wholeB valB
    rw [e1, e2, dec_natB, dec_val]
    exact ⟨rfl, by simp; omega⟩
/-- the text of a whole number is its digits -/
theorem itoa_of {s : List UInt8} (h : wholeB s = true) : Lib.itoa (valB s) = s := by
  unfold wholeB at h
  simp only [Bool.and_eq_true, Bool.not_eq_true'] at h
  obtain ⟨h1, h2⟩ := h
  unfold valB
  cases hn : negB s
  · have e : magL s = s := by unfold magL; rw [hn]; rfl
    rw [e] at h1 ⊢
    simp only [Bool.false_eq_true, if_false]
    rw [Lib.itoa_nonneg, nat_dec h1]
  · rw [hn] at h2
    simp only [Bool.true_and, decide_eq_false_iff_not] at h2
    simp only [if_true]
    have hp : 1 ≤ natV (magL s) := by
      apply Classical.byContradiction
      intro hc
      have h0 : natV (magL s) = 0 := by omega
      have := nat_dec h1
      rw [h0, Lib.decDigits_one (by omega)] at this
      exact h2 this.symm
    rw [Lib.itoa_neg _ hp, nat_dec h1]
    unfold negB at hn
    have hn := of_decide_eq_true hn
    unfold magL negB
    cases s with
    | nil => simp at hn
    | cons c r =>
      rw [List.head?_cons] at hn
      have hn := Option.some.inj hn
      subst hn
      rfl
/-- what strconv reads of digits -/
theorem parse_nat : ∀ (l : List UInt8) (acc : Nat), l.all digB = true → acc ≤ 18446744073709551615 → Lib.parseUintM 18446744073709551615 acc l = if natA acc l ≤ 18446744073709551615 then .ok (natA acc l) else .range
  | [], acc, _, h => by rw [if_pos (by exact h)]; rfl
  | c :: r, acc, hl, h => by
    simp only [List.all_cons, Bool.and_eq_true, digB, decide_eq_true_eq] at hl
    have hg := natA_ge r (acc * 10 + (c.toNat - 48))
    have e : natA acc (c :: r) = natA (acc * 10 + (c.toNat - 48)) r := rfl
    rw [e]
    unfold Lib.parseUintM
    rw [if_pos hl.1]
    by_cases h1 : 1844674407370955162 ≤ acc
    · rw [if_pos h1, if_neg (by omega)]
    · rw [if_neg h1]
      by_cases h2 : 18446744073709551615 < acc * 10 + (c.toNat - 48)
      · rw [if_pos h2, if_neg (by omega)]
      · rw [if_neg h2]
        exact parse_nat r _ hl.2 (by omega)
theorem parse_whole {s : List UInt8} (h : wholeB s = true) : Lib.parseIntB 64 s = if valB s < -9223372036854775808 ∨ 9223372036854775807 < valB s then .range else .ok (valB s) := by
  unfold wholeB at h
  simp only [Bool.and_eq_true] at h
  have h1 := h.1
  unfold natB at h1
  simp only [Bool.and_eq_true, decide_eq_true_eq] at h1
  obtain ⟨⟨ha, hne⟩, _⟩ := h1
  have hp := parse_nat (magL s) 0 ha (by omega)
  have e64 : (2 : Nat) ^ 64 - 1 = 18446744073709551615 := by decide
  have e63 : (2 : Nat) ^ (64 - 1) = 9223372036854775808 := by decide
  cases s with
  | nil => exact absurd rfl hne
  | cons c r =>
    unfold Lib.parseIntB
    simp only
    by_cases hc : c = 45
    · subst hc
      have en : negB (45 :: r) = true := rfl
      have em : magL (45 :: r) = r := rfl
      rw [em] at hne hp
      have ev : valB (45 :: r) = -(natA 0 r : Int) := rfl
      have q0 : ((45 : UInt8).toNat = 43 ∨ (45 : UInt8).toNat = 45) = True := by simp
      rw [ev]
      simp only [q0, if_true]
      unfold Lib.parseUintB
      rw [if_neg hne, e64, hp]
      by_cases h2 : natA 0 r ≤ 18446744073709551615
      · rw [if_pos h2]
        simp only [e63]
        have q : ((45 : UInt8).toNat = 45) = True := by simp
        simp only [q, not_true_eq_false, false_and, if_false, true_and, if_true]
        by_cases h3 : 9223372036854775808 < natA 0 r
        · rw [if_pos h3, if_pos (by omega)]
        · rw [if_neg h3, if_neg (by omega)]
      · rw [if_neg h2]
        simp only
        rw [if_pos (by omega)]
    · have hd := ha
      have en : negB (c :: r) = false := by unfold negB; rw [List.head?_cons]; exact decide_eq_false (fun e => hc (Option.some.inj e))
      have em : magL (c :: r) = c :: r := by unfold magL; rw [en]; rfl
      rw [em] at hne hp hd
      simp only [List.all_cons, Bool.and_eq_true, digB, decide_eq_true_eq] at hd
      have ev : valB (c :: r) = (natA 0 (c :: r) : Int) := by unfold valB natV; rw [en, em]; rfl
      have q0 : (c.toNat = 43 ∨ c.toNat = 45) = False := by simp; omega
      rw [ev]
      simp only [q0, if_false]
      unfold Lib.parseUintB
      rw [if_neg hne, e64, hp]
      have q : (c.toNat = 45) = False := by simp; omega
      by_cases h2 : natA 0 (c :: r) ≤ 18446744073709551615
      · rw [if_pos h2]
        simp only [e63, q, not_false_eq_true, true_and, false_and, if_false]
        by_cases h3 : 9223372036854775808 ≤ natA 0 (c :: r)
        · rw [if_pos h3, if_pos (by omega)]
        · rw [if_neg h3, if_neg (by omega)]
      · rw [if_neg h2]
        simp only
        rw [if_pos (by omega)]
end Go.Proofs.YtoccplfnjammjaaGreatDoor
