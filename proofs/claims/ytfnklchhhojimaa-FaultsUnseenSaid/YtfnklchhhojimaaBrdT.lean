/- torchonref02: Check, Both, SameForm. -/
import Derived.Test.YtfnklchhhojimaaBrdS
set_option linter.unusedSimpArgs false
set_option linter.unusedVariables false
namespace Go.Proofs.Ytfnklchhhojimaa
open Go Go.RowKit Tor Brd

set_option maxRecDepth 100000 in
set_option maxHeartbeats 4000000 in
theorem bcheck_any (n : Nat) (h1 : 1 ≤ n) (h12 : n ≤ 12) (A : Option Addr) (l : List Int) (c : Nat) (w : World) (H : Nat) (hr : RdI w H A l) (hH : H ≤ w.heap.size) (hl : l.length ≤ 400) (hin : ∀ x ∈ l, InR n x) :
    Calls Try.prog 49 #[.int .i64 n, .slice A l.length c] w (Ret (.int .i64 0) w) := by
  have HIN := Lib.hid hin
  clear hin
  have d1 : ¬ (n : Int) < 1 := by omega
  have d2 : ¬ (12 : Int) < (n : Int) := by omega
  have d3 : ¬ (400 : Int) < (l.length : Int) := by omega
  have en : IntKind.i64.wrap (-(n : Int)) = -(n : Int) := IntWalk.i64_in _ (by omega)
  go_enter Try.func49, Try.ntmps49
  go_wp2_with fail
  go_loopw [5] (fun iv wr => ∃ i : Nat, i ≤ l.length ∧ iv = .int .i64 i ∧ Below w.heap.size w wr) (fun iv _ => l.length - (intOf iv).toNat)
  case atStart => exact ⟨0, Nat.zero_le _, rfl, Below.refl _ _⟩
  case round =>
    obtain ⟨i, hi, rfl, hB⟩ := hrel
    have hz := hB.size
    by_cases hlt : i < l.length
    · obtain ⟨b, o, hA, hb, m0⟩ := (hr.below' hB hH).int hlt
      subst hA
      have lm := lt_of_cell m0
      obtain ⟨q0, q1, q2⟩ := HIN.out _ (List.getElem_mem hlt)
      obtain ⟨x, hx⟩ : ∃ x, Hid (l[i] = x) := ⟨_, Lib.hid rfl⟩
      rw [hx.out] at m0 q0 q1 q2
      have c1 : (i : Int) < (l.length : Int) := by omega
      have c2 : (0 : Int) ≤ (i : Int) := by omega
      have e1 : IntKind.i64.wrap ((i : Int) + 1) = (i : Int) + 1 := IntWalk.i64_in _ (by omega)
      have z1 : (x == 0) = false := by simpa using q0
      have z2 : ¬ x ≤ -(n : Int) := by omega
      have z3 : ¬ (n : Int) ≤ x := by omega
      go_wp2_with fail
      go_roundw
      case rel => exact ⟨i + 1, by omega, by go_num, hB⟩
      case measure => simp [intOf]; omega
    · have c1 : ¬ (i : Int) < (l.length : Int) := by omega
      go_wp2_with fail
      go_ret
      exact ⟨rfl, hB⟩
set_option maxRecDepth 100000 in
set_option maxHeartbeats 4000000 in
theorem bboth_any (n : Nat) (h1 : 1 ≤ n) (h12 : n ≤ 12) (A : Option Addr) (l : List Int) (c : Nat) (B : Option Addr) (m : List Int) (d : Nat) (w : World) (H : Nat) (hr : RdI w H A l) (hr2 : RdI w H B m) (hH : H ≤ w.heap.size) (hl : l.length ≤ 400) (hm : m.length ≤ 400) (hin : ∀ x ∈ l, InR n x) (hin2 : ∀ x ∈ m, InR n x) :
    Calls Try.prog 21 #[.int .i64 n, .slice A l.length c, .slice B m.length d] w (Ret (.int .i64 0) w) := by
  have H1 := Lib.hid (bcheck_any n h1 h12 A l c w H hr hH hl hin)
  have H2 := Lib.hid (fun w' (hB : Below w.heap.size w w') => bcheck_any n h1 h12 B m d w' H (hr2.below' hB hH) (Nat.le_trans hH hB.size) hm hin2)
  clear hin hin2
  go_enter Try.func21, Try.ntmps21
  go_wp2_with (first
    | (go_at_call 49; refine H1.out.mono ?_; rintro e w1 ⟨rfl, hB1⟩; clear H1)
    | (go_at_call 49; refine (H2.out w1 hB1).mono ?_; rintro e w2 ⟨rfl, hB2⟩; clear H2)
    | fail)
  go_ret
  exact ⟨rfl, hB1.trans (hB2.mono hB1.size)⟩
theorem FacW.rd {w : World} {base : Nat} {v : Value} {vs : List Value} {R : List (List Nat)} (h : FacW w base v vs R) : ∃ A c, v = .slice A R.length c ∧ R.length ≤ c ∧ RdG w w.heap.size A R := by
  obtain ⟨A, c, hv, hc, hr⟩ := Own.rd venc_len h.out
  rw [h.len] at hv hc
  refine ⟨A, c, hv, hc, fun hne => ?_⟩
  have hvs : vs ≠ [] := fun e => hne (List.eq_nil_of_length_eq_zero (by rw [← h.len, e]; rfl))
  obtain ⟨b, o, rfl, hb, hcell⟩ := hr hvs
  refine ⟨b, o, rfl, hb, fun k hk => ?_⟩
  have hk' : k < vs.length := by rw [h.len]; exact hk
  obtain ⟨Ak, ck, hvk, _, hrk⟩ := Own.rd nenc_len (h.inn k hk')
  have e : R.getD k [] = R[k] := by rw [List.getD_eq_getElem?_getD, List.getElem?_eq_getElem hk]; rfl
  rw [e] at hvk hrk
  have := hcell k _ (List.getElem?_eq_getElem hk') 0 _ rfl
  rw [hvk, Nat.mul_one, Nat.add_zero] at this
  exact ⟨Ak, ck, this, hrk⟩
theorem rowB {w : World} {H : Nat} {A : Option Addr} {R : List (List Nat)} (h : RdG w H A R) {k : Nat} (hk : k < R.length) : ∃ b o, A = some ⟨b, o, none⟩ ∧ b < H ∧ ∃ (Ak : Option Addr) (ck : Nat), w.cell? ⟨b, o + k, none⟩ = some (.slice Ak R[k].length ck) ∧ Rd 1 nenc w H Ak R[k] := by
  obtain ⟨b, o, e, hb, hc⟩ := h (fun e => by rw [e] at hk; simp at hk)
  exact ⟨b, o, e, hb, hc k hk⟩
set_option maxRecDepth 100000 in
set_option maxHeartbeats 4000000 in
theorem bsameInts_eq (A B : Option Addr) (l : List Nat) (c d : Nat) (w : World) (H : Nat) (hl : l.length ≤ 100000) (ha : Rd 1 nenc w H A l) (hb : Rd 1 nenc w H B l) (hH : H ≤ w.heap.size) :
    Calls Try.prog 56 #[.slice A l.length c, .slice B l.length d] w (Ret (.bool true) w) := by
  go_enter Try.func56, Try.ntmps56
  go_wp2_with fail
  go_loopw [5] (fun i wr => ∃ k : Nat, k ≤ l.length ∧ i = .int .i64 k ∧ Below w.heap.size w wr) (fun i _ => l.length - (intOf i).toNat)
  case atStart => exact ⟨0, Nat.zero_le _, rfl, Below.refl _ _⟩
  case round =>
    obtain ⟨k, hk, rfl, hB⟩ := hrel
    by_cases hlt : k < l.length
    · obtain ⟨b, o, rfl, hb0, h0⟩ := rdNat (ha.below' hB hH) hlt
      obtain ⟨b', o', rfl, hb0', g0⟩ := rdNat (hb.below' hB hH) hlt
      have l1 := lt_of_cell h0
      have l2 := lt_of_cell g0
      have k0 : (0 : Int) ≤ (k : Int) := by omega
      have k1 : (k : Int) < (l.length : Int) := by omega
      obtain ⟨x, hx⟩ : ∃ x, Hid (at_ l k = x) := ⟨_, Lib.hid rfl⟩
      rw [hx.out] at h0 g0
      have e1 : IntKind.i64.wrap ((k : Int) + 1) = (k : Int) + 1 := IntWalk.i64_in _ (by omega)
      go_wp2_with fail
      go_big_quiet (fail)
      have hBq := hB.drewN nq
      go_wp2_with fail
      go_roundw
      case rel => exact ⟨k + 1, by omega, by go_num, hBq⟩
      case measure => simp [intOf]; omega
    · have k1 : ¬ (k : Int) < (l.length : Int) := by omega
      go_wp2_with fail
      go_ret
      exact ⟨rfl, hB⟩
set_option maxRecDepth 100000 in
set_option maxHeartbeats 4000000 in
theorem bsameForm_eq (A B : Option Addr) (R : List (List Nat)) (c d : Nat) (w : World) (H : Nat) (hl : R.length ≤ 100000) (hi : ∀ r ∈ R, r.length ≤ 1000) (ha : RdG w H A R) (hb : RdG w H B R) (hH : H ≤ w.heap.size) :
    Calls Try.prog 23 #[.slice A R.length c, .slice B R.length d] w (Ret (.bool true) w) := by
  have HI := Lib.hid hi
  clear hi
  go_enter Try.func23, Try.ntmps23
  go_wp2_with fail
  go_loopw [5] (fun i wr => ∃ k : Nat, k ≤ R.length ∧ i = .int .i64 k ∧ Below w.heap.size w wr) (fun i _ => R.length - (intOf i).toNat)
  case atStart => exact ⟨0, Nat.zero_le _, rfl, Below.refl _ _⟩
  case round =>
    obtain ⟨k, hk, rfl, hB⟩ := hrel
    have hz := hB.size
    by_cases hlt : k < R.length
    · obtain ⟨b, o, rfl, hb0, Ak, ck, h0, hrk⟩ := rowB (ha.below (hB.mono hH)) hlt
      obtain ⟨b', o', rfl, hb0', Bk, dk, g0, hsk⟩ := rowB (hb.below (hB.mono hH)) hlt
      have l1 := lt_of_cell h0
      have l2 := lt_of_cell g0
      have k0 : (0 : Int) ≤ (k : Int) := by omega
      have k1 : (k : Int) < (R.length : Int) := by omega
      have hri := HI.out _ (List.getElem_mem hlt)
      obtain ⟨r, hr⟩ : ∃ r, Hid (R[k] = r) := ⟨_, Lib.hid rfl⟩
      rw [hr.out] at h0 g0 hrk hsk hri
      have e1 : IntKind.i64.wrap ((k : Int) + 1) = (k : Int) + 1 := IntWalk.i64_in _ (by omega)
      have HS := Lib.hid (fun (g : Ex wr) => calls_ex (P := Try.prog) (bsameInts_eq Ak Bk r ck dk g.w H (by omega) (hrk.below' g.h (by omega)) (hsk.below' g.h (by omega)) (by have := g.h.size; omega)))
      go_wp2_with fail
      refine wp_region_ex (by kernel_rfl) (by kernel_rfl) ?_
      repeat (go_big_quiet_step ((go_at_call 56; refine (HS.out _).mono ?_; rintro e w' ⟨rfl, hg⟩; exact ⟨rfl, hg⟩)))
      refine wpQuiet_nil ?_
      intro _ hw'
      obtain ⟨g, hw''⟩ := hw'
      subst hw''
      have hgq := g.h
      go_wp2_with fail
      go_roundw
      case rel => exact ⟨k + 1, by omega, by go_num, hB.trans (hgq.mono hz)⟩
      case measure => simp [intOf]; omega
    · have k1 : ¬ (k : Int) < (R.length : Int) := by omega
      go_wp2_with fail
      go_ret
      exact ⟨rfl, hB⟩
end Go.Proofs.Ytfnklchhhojimaa
