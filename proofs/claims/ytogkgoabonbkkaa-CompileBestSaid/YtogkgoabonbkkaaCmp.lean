/- SameSteps, Reaches, SameInts, index, Check of words. -/
import Derived.Test.YtogkgoabonbkkaaFacts
set_option linter.unusedSimpArgs false
set_option linter.unusedVariables false
namespace Go.Proofs.Ytogkgoabonbkkaa
open Go Go.RowKit Tor

/-- SameSteps -/
theorem sameSteps_any (A B : Option Addr) (l m : List Tri) (c d : Nat) (w : World) (H : Nat) (hl : l.length ≤ 9223372036854775807) (ha : RdT w H A l) (hb : RdT w H B m) (hH : H ≤ w.heap.size) :
    Calls Try.prog 14 #[.slice A l.length c, .slice B m.length d] w (Ret (.bool (decide (l = m))) w) := by
  go_enter Try.func14, Try.ntmps14
  by_cases hnm : l.length = m.length
  · have hnm' : ((l.length : Int) != (m.length : Int)) = false := by simp [hnm]
    have H0 := Lib.hid hnm
    clear hnm
    go_wp2
    go_loopw [5] (fun i wr => ∃ k : Nat, k ≤ l.length ∧ i = .int .i64 k ∧ Hid (l.take k = m.take k) ∧ Below w.heap.size w wr) (fun i _ => l.length - (intOf i).toNat)
    case atStart => exact ⟨0, Nat.zero_le _, rfl, by simp [Hid], Below.refl _ _⟩
    case round =>
      obtain ⟨k, hk, rfl, ht, hB⟩ := hrel
      by_cases hlt : k < l.length
      · obtain ⟨b, o, rfl, hb0, h0, h1, h2⟩ := (ha.below' hB hH).tri hlt
        have hlt' : k < m.length := by rw [← H0.out]; exact hlt
        obtain ⟨b', o', rfl, hb0', g0, g1, g2⟩ := (hb.below' hB hH).tri hlt'
        go_wp2
        go_quiet (fail)
        go_wp2
        · go_ret
          have h : (!decide (l[k] = m[k])) = true := by assumption
          have := take_ne hlt hlt' (by simpa using h)
          exact Ret.bool (by simp [this]) (hB.drewN nq)
        · go_roundw
          case rel => exact ⟨k + 1, by omega, by go_num, take_eq_snoc hlt hlt' (by have h : (!decide (l[k] = m[k])) = false := by assumption
                                                                                   simpa using h) ht.out, hB.drewN nq⟩
          case measure => simp [intOf]; omega
      · go_wp2
        go_ret
        exact Ret.bool (by have := take_eq_all hlt H0.out ht.out; simp [this]) hB
  · have hnm' : ((l.length : Int) != (m.length : Int)) = true := by simp; omega
    go_wp2
    go_ret
    refine ⟨ret_bool ?_, Below.refl _ _⟩
    have : l ≠ m := fun e => hnm (by rw [e])
    simp [this]

/-- Same of two sheets: the same, over works -/
theorem same_any (A B : Option Addr) (l m : List Tri) (p q : Int) (c d : Nat) (w : World) (H : Nat) (hl : l.length ≤ 9223372036854775807) (ha : RdT w H A l) (hb : RdT w H B m) (hH : H ≤ w.heap.size) :
    Calls Try.prog 21 #[.agg #[.int .i64 p, .slice A l.length c], .agg #[.int .i64 q, .slice B m.length d]] w (Ret (.bool (decide (p = q ∧ l = m))) w) := by
  by_cases hpq : p = q
  · have hpq' : (p != q) = false := by simp [hpq]
    have HP := Lib.hid hpq
    clear hpq
    by_cases hnm : l.length = m.length
    · have hnm' : ((l.length : Int) != (m.length : Int)) = false := by simp [hnm]
      have H0 := Lib.hid hnm
      clear hnm
      go_enter Try.func21, Try.ntmps21
      go_wp2
      go_loopw [5] (fun i wr => ∃ k : Nat, k ≤ l.length ∧ i = .int .i64 k ∧ Hid (l.take k = m.take k) ∧ Below (w.heap.size + 2) ((w.alloc (.cells #[.int .i64 p, .slice A l.length c] 24)).alloc (.cells #[.int .i64 q, .slice B m.length d] 24)) wr) (fun i _ => l.length - (intOf i).toNat)
      case atStart => exact ⟨0, Nat.zero_le _, rfl, by simp [Hid], Below.refl _ _⟩
      case round =>
        obtain ⟨k, hk, rfl, ht, hB⟩ := hrel
        have hB0 : Below w.heap.size w wr := (((Below.refl _ _).alloc (Nat.le_refl _) _).alloc (by simp) _).trans (hB.mono (by omega))
        have hz : w.heap.size + 1 < wr.heap.size := by have := hB.size; simp at this; omega
        have hz' : w.heap.size < wr.heap.size := by omega
        have hN0 : wr.cell? ⟨w.heap.size, 1, none⟩ = some (.slice A l.length c) := by rw [hB.cell (p := ⟨_, _, none⟩) (by simp)]; simp [go_sem]
        have hN1 : wr.cell? ⟨w.heap.size + 1, 1, none⟩ = some (.slice B m.length d) := by rw [hB.cell (p := ⟨_, _, none⟩) (by simp)]; simp [go_sem]
        by_cases hlt : k < l.length
        · obtain ⟨b, o, rfl, hb0, h0, h1, h2⟩ := (ha.below' hB0 hH).tri hlt
          have hlt' : k < m.length := by rw [← H0.out]; exact hlt
          obtain ⟨b', o', rfl, hb0', g0, g1, g2⟩ := (hb.below' hB0 hH).tri hlt'
          go_wp2
          go_quiet (fail)
          go_wp2
          · go_ret
            have h : (!decide (l[k] = m[k])) = true := by assumption
            have := take_ne hlt hlt' (by simpa using h)
            exact Ret.bool (by simp [this]) (hB0.drewN nq)
          · go_roundw
            case rel =>
              have h : (!decide (l[k] = m[k])) = false := by assumption
              exact ⟨k + 1, by omega, by go_num, take_eq_snoc hlt hlt' (by simpa using h) ht.out, hB.drewN nq⟩
            case measure => simp [intOf]; omega
        · go_wp2
          go_ret
          exact Ret.bool (by have := take_eq_all hlt H0.out ht.out; simp [this, HP.out]) hB0
    · have hnm' : ((l.length : Int) != (m.length : Int)) = true := by simp; omega
      go_enter Try.func21, Try.ntmps21
      go_wp2
      go_ret
      refine Ret.bool ?_ (((Below.refl _ _).alloc (Nat.le_refl _) _).alloc (by simp) _)
      have : l ≠ m := fun e => hnm (by rw [e])
      simp [this]
  · have hpq' : (p != q) = true := by simp [hpq]
    have HP := Lib.hid hpq
    clear hpq
    go_enter Try.func21, Try.ntmps21
    go_wp2
    go_ret
    refine Ret.bool ?_ (((Below.refl _ _).alloc (Nat.le_refl _) _).alloc (by simp) _)
    have := HP.out
    simp [this]

/-- Reaches, program and reference -/
def reachesN (l : List Tri) : Nat := (l.filter (fun x => decide (x.a = 1))).length
theorem reachesN_step (l : List Tri) (k : Nat) (h : k < l.length) : reachesN (l.take (k + 1)) = reachesN (l.take k) + (if l[k].a = 1 then 1 else 0) := by
  rw [take_snoc l k h]
  unfold reachesN
  rw [List.filter_append, List.length_append]
  by_cases e : l[k].a = 1 <;> simp [e]
theorem reachesN_le (l : List Tri) (k : Nat) : reachesN (l.take k) ≤ k := by
  unfold reachesN
  have := List.length_filter_le (fun x : Tri => decide (x.a = 1)) (l.take k)
  have := List.length_take_le k l
  omega

theorem creaches_any (A : Option Addr) (l : List Tri) (c : Nat) (w : World) (H : Nat) (hl : l.length ≤ 9223372036854775807) (ha : RdT w H A l) (hH : H ≤ w.heap.size) :
    Calls Try.prog 27 #[.slice A l.length c] w (Ret (.int .i64 (reachesN l)) w) := by
  go_enter Try.func27, Try.ntmps27
  go_wp2
  go_loopw [3, 8] (fun n i wr => ∃ k : Nat, k ≤ l.length ∧ i = .int .i64 k ∧ n = .int .i64 (reachesN (l.take k)) ∧ Below w.heap.size w wr) (fun _ i _ => l.length - (intOf i).toNat)
  case atStart => exact ⟨0, Nat.zero_le _, rfl, rfl, Below.refl _ _⟩
  case round =>
    obtain ⟨k, hk, rfl, rfl, hB⟩ := hrel
    have hle := reachesN_le l k
    by_cases hlt : k < l.length
    · have HS := Lib.hid (reachesN_step l k hlt)
      obtain ⟨b, o, rfl, hb0, h0, h1, h2⟩ := (ha.below' hB hH).tri hlt
      by_cases h1' : l[k].a = 1
      · have e : (l[k].a == 1) = true := by simp [h1']
        have HE := Lib.hid h1'
        clear h1'
        go_wp2
        go_roundw
        case rel => exact ⟨k + 1, by omega, by go_num, by rw [HS.out, if_pos HE.out]; go_num, hB.alloc hB.size _⟩
        case measure => simp [intOf]; omega
      · have e : (l[k].a == 1) = false := by simp [h1']
        have HE := Lib.hid h1'
        clear h1'
        go_wp2
        go_roundw
        case rel => exact ⟨k + 1, by omega, by go_num, by rw [HS.out, if_neg HE.out]; go_num, hB.alloc hB.size _⟩
        case measure => simp [intOf]; omega
    · go_wp2
      go_ret
      exact Ret.int (by rw [take_all l k hlt]) hB

theorem rreaches_any (A : Option Addr) (l : List Tri) (c : Nat) (w : World) (H : Nat) (hl : l.length ≤ 9223372036854775807) (ha : RdT w H A l) (hH : H ≤ w.heap.size) :
    Calls Try.prog 25 #[.slice A l.length c] w (Ret (.int .i64 (reachesN l)) w) := by
  go_enter Try.func25, Try.ntmps25
  go_wp2
  go_loopw [3, 4] (fun n i wr => ∃ k : Nat, k ≤ l.length ∧ i = .int .i64 k ∧ n = .int .i64 (reachesN (l.take k)) ∧ Below w.heap.size w wr) (fun _ i _ => l.length - (intOf i).toNat)
  case atStart => exact ⟨0, Nat.zero_le _, rfl, rfl, Below.refl _ _⟩
  case round =>
    obtain ⟨k, hk, rfl, rfl, hB⟩ := hrel
    have hle := reachesN_le l k
    by_cases hlt : k < l.length
    · have HS := Lib.hid (reachesN_step l k hlt)
      obtain ⟨b, o, rfl, hb0, h0, h1, h2⟩ := (ha.below' hB hH).tri hlt
      by_cases h1' : l[k].a = 1
      · have e : (l[k].a == 1) = true := by simp [h1']
        have HE := Lib.hid h1'
        clear h1'
        go_wp2
        go_roundw
        case rel => exact ⟨k + 1, by omega, by go_num, by rw [HS.out, if_pos HE.out]; go_num, hB⟩
        case measure => simp [intOf]; omega
      · have e : (l[k].a == 1) = false := by simp [h1']
        have HE := Lib.hid h1'
        clear h1'
        go_wp2
        go_roundw
        case rel => exact ⟨k + 1, by omega, by go_num, by rw [HS.out, if_neg HE.out]; go_num, hB⟩
        case measure => simp [intOf]; omega
    · go_wp2
      go_ret
      exact Ret.int (by rw [take_all l k hlt]) hB
end Go.Proofs.Ytogkgoabonbkkaa
