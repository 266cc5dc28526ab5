/- sheet.Check, compile.check, torchonref15.check, Hands. -/
import Derived.Test.YtogkgoabonbkkaaDoorCheck
set_option linter.unusedSimpArgs false
set_option linter.unusedVariables false
namespace Go.Proofs.YtogkgoabonbkkaaDoor
open Go Go.RowKit Tor

theorem long1_any (x : Tri) (w : World) (hs : x.s.size ≤ 9223372036854775807) :
    Calls Tryd.prog 52 #[.agg #[.int .i64 x.a, .int .i64 x.b, .string x.s]] w (Ret (.bool (longW x)) w) := by
  go_enter Tryd.func52, Tryd.ntmps52
  go_wp2
  go_ret
  exact Ret.bool (by simp [longW]; omega) ((Below.refl _ _).alloc (Nat.le_refl _) _)

theorem indexFunc_any (A : Option Addr) (l : List Tri) (c : Nat) (w : World) (H : Nat) (hr : RdT w H A l) (hH : H ≤ w.heap.size) (hw : ∀ (k : Nat) (hk : k < l.length), l[k].s.size ≤ 9223372036854775807) (hl : l.length ≤ 9223372036854775807) :
    Calls Tryd.prog 57 #[.slice A l.length c, .func (.func 52) #[] #[]] w
      fun e w' => ∃ i : Int, e = .returned (.int .i64 i) ∧ Hid (decide (0 ≤ i) = l.any longW) ∧ Below w.heap.size w w' := by
  go_enter Tryd.func57, Tryd.ntmps57
  go_wp2
  go_loopw [8] (fun i wr => ∃ k : Nat, k ≤ l.length ∧ i = .int .i64 k ∧ Hid ((l.take k).any longW = false) ∧ Below w.heap.size w wr) (fun i _ => l.length - (intOf i).toNat)
  case atStart => exact ⟨0, Nat.zero_le _, rfl, by simp [Hid], Below.refl _ _⟩
  case round =>
    obtain ⟨k, hk, rfl, hno, hB⟩ := hrel
    by_cases hlt : k < l.length
    · obtain ⟨b, o, rfl, hb0, h0, h1, h2⟩ := (hr.below' hB hH).tri hlt
      have hW := Lib.hid (hw k hlt)
      cases hlong : longW l[k]
      · have HL := Lib.hid hlong
        go_wp2_with (go_at_call 52; refine (long1_any _ _ hW.out).mono ?_; rintro e w1 ⟨rfl, hB1⟩)
        go_roundw
        case rel => exact ⟨k + 1, by omega, by go_num, any_snoc _ _ _ hlt hno.out HL.out, hB.trans (hB1.mono (by have := hB.size; omega))⟩
        case measure => simp [intOf]; omega
      · have HL := Lib.hid hlong
        go_wp2_with (go_at_call 52; refine (long1_any _ _ hW.out).mono ?_; rintro e w1 ⟨rfl, hB1⟩)
        go_ret
        exact ⟨k, rfl, by have := any_at _ _ k hlt HL.out; simp [Hid, this], hB.trans (hB1.mono (by have := hB.size; omega))⟩
    · go_wp2
      go_ret
      exact ⟨-1, rfl, by have := any_end _ _ k hlt hno.out; simp [Hid, this], hB⟩

theorem contains_any (A : Option Addr) (l : List Tri) (c : Nat) (w : World) (H : Nat) (hr : RdT w H A l) (hH : H ≤ w.heap.size) (hw : ∀ (k : Nat) (hk : k < l.length), l[k].s.size ≤ 9223372036854775807) (hl : l.length ≤ 9223372036854775807) :
    Calls Tryd.prog 51 #[.slice A l.length c, .func (.func 52) #[] #[]] w (Ret (.bool (l.any longW)) w) := by
  have HW := Lib.hid hw
  clear hw
  go_enter Tryd.func51, Tryd.ntmps51
  go_wp2_with (go_at_call 57; refine (indexFunc_any _ l _ _ H hr hH HW.out hl).mono ?_; rintro e w1 ⟨i, rfl, hi, hB1⟩)
  go_ret
  exact Ret.bool hi.out hB1

theorem max2 (a b : Int) (ha : a = 0 ∨ a = 6) (hb : b = 0 ∨ b = 6) : max a b = if a = 6 ∨ b = 6 then 6 else 0 := by
  rcases ha with rfl | rfl <;> rcases hb with rfl | rfl <;> decide

theorem wordE_short (s : ByteArray) (h : ¬ 16 < s.size) : wordE s = 0 ∨ wordE s = 6 := by
  unfold wordE; rw [if_neg h]; split <;> simp


/-- the form of the first k works -/
def formE (l : List Tri) (k : Nat) : Int := if (l.take k).any wrongW then 6 else 0
theorem formE_step (l : List Tri) (k : Nat) (h : k < l.length) (hs : longW l[k] = false) : max (formE l k) (wordE l[k].s) = formE l (k + 1) := by
  have hw := wordE_short l[k].s (by simpa [longW] using hs)
  unfold formE
  rw [take_snoc l k h]
  simp only [List.any_append, List.any_cons, List.any_nil, Bool.or_false]
  cases (l.take k).any wrongW <;> rcases hw with e | e <;> simp [wrongW, e] <;> decide
theorem formE_bd (l : List Tri) (k : Nat) : 0 ≤ formE l k ∧ formE l k ≤ 6 := by unfold formE; split <;> simp

theorem sheetE_form {p : Int} {l : List Tri} (h24 : p ≤ 24) (h400 : ¬ 400 < l.length) (hL : l.any longW = false) (h2 : 2 ≤ p) (hb : l.any (badW p) = false) (k : Nat) (hk : ¬ k < l.length) : sheetE p l = formE l k := by
  unfold formE
  rw [take_all _ _ hk]
  have e : ¬ 24 < p := by omega
  have e2 : ¬ p < 2 := by omega
  simp only [sheetE, e, h400, hL, e2, hb]
  simp


set_option maxHeartbeats 1000000 in
theorem sheet_any (p : Int) (A : Option Addr) (l : List Tri) (c : Nat) (w : World) (H : Nat) (hr : RdT w H A l) (hH : H ≤ w.heap.size) (hw : ∀ (k : Nat) (hk : k < l.length), l[k].s.size ≤ 9223372036854775807) (hl : l.length ≤ 9223372036854775807) :
    Calls Tryd.prog 32 #[.agg #[.int .i64 p, .slice A l.length c]] w (Ret (.int .i64 (sheetE p l)) w) := by
  by_cases h24 : 24 < p
  · go_enter Tryd.func32, Tryd.ntmps32
    go_wp2
    go_ret
    exact Ret.int (by simp [sheetE, h24]) ((Below.refl _ _).alloc (Nat.le_refl _) _)
  by_cases h400 : 400 < l.length
  · go_enter Tryd.func32, Tryd.ntmps32
    go_wp2
    go_ret
    exact Ret.int (by simp [sheetE, h400]) ((Below.refl _ _).alloc (Nat.le_refl _) _)
  have H24 := Lib.hid h24
  have H400 := Lib.hid h400
  have HW := Lib.hid hw
  have hA : RdT (w.alloc (.cells #[.int .i64 p, .slice A l.length c] 28)) H A l := hr.below' ((Below.refl _ _).alloc (Nat.le_refl _) _) hH
  clear hw
  cases hlong : l.any longW
  · have HL := Lib.hid hlong
    by_cases h2 : p < 2
    · have HE := Lib.hid (sheetE_pairs H400.out HL.out h2)
      go_enter Tryd.func32, Tryd.ntmps32
      go_wp2_with (go_at_call 51; refine (contains_any _ l _ _ H hA (by simp; omega) HW.out hl).mono ?_; rintro e w1 ⟨rfl, hB⟩; replace hB := box_up hB; have hN0 := box_cell hB 0 (.int .i64 p) rfl)
      go_ret
      exact Ret.int HE.out.symm (box_below hB)
    · have H2 := Lib.hid h2
      go_enter Tryd.func32, Tryd.ntmps32
      go_wp2_with (go_at_call 51; refine (contains_any _ l _ _ H hA (by simp; omega) HW.out hl).mono ?_; rintro e w1 ⟨rfl, hB⟩; replace hB := box_up hB; have hN0 := box_cell hB 0 (.int .i64 p) rfl; have hN1 := box_cell hB 1 (.slice A l.length c) rfl)
      have hE := formE_bd l 0
      go_loopw [3, 26] (fun f i wr => ∃ k : Nat, k ≤ l.length ∧ i = .int .i64 k ∧ f = .int .i64 (formE l k) ∧ Hid ((l.take k).any (badW p) = false) ∧ Below (w.heap.size + 1) (w.alloc (.cells #[.int .i64 p, .slice A l.length c] 28)) wr) (fun _ i _ => l.length - (intOf i).toNat)
      case atStart => exact ⟨0, Nat.zero_le _, rfl, by simp [formE], by simp [Hid], hB⟩
      case round =>
        obtain ⟨k', hk', rfl, rfl, hno, hC⟩ := hrel
        clear hN0 hN1 hE
        have hN0 := box_cell hC 0 (.int .i64 p) rfl
        have hN1 := box_cell hC 1 (.slice A l.length c) rfl
        have hNs := box_lt hC
        by_cases hlt' : k' < l.length
        · obtain ⟨b, o, rfl, hb0, h0, h1, h2⟩ := (hr.below' (box_below hC) hH).tri hlt'
          have hbb := lt_of_cell h0
          have hW := Lib.hid (HW.out k' hlt')
          have HK := Lib.hid (any_not HL.out k' hlt')
          go_wp2_with (go_at_call 21; refine (word_any _ _ hW.out).mono ?_; rintro e w1 ⟨rfl, hB1⟩)
          all_goals first
            | (go_roundw
               case rel => exact ⟨k' + 1, by omega, by go_num, (by rw [← formE_step l k' hlt' HK.out, maxif]), any_snoc _ _ _ hlt' hno.out (by rw [badW_false]; (try simp only [bemp, snil, decide_eq_true_eq, decide_eq_false_iff_not] at *); omega), (hC.alloc (by omega) _).trans (hB1.mono (by simp; omega))⟩
               case measure => simp [intOf]; omega)
            | (go_ret; exact Ret.int (sheetE_bad H24.out H400.out HL.out k' hlt' (by rw [badW_true]; (try simp only [bemp, snil, decide_eq_true_eq, decide_eq_false_iff_not] at *); omega)).symm ((box_below hC).alloc (by omega) _))
        · go_wp2
          go_ret
          exact Ret.int (sheetE_form H24.out H400.out HL.out H2.out (any_end _ _ _ hlt' hno.out) k' hlt').symm (box_below hC)
  · go_enter Tryd.func32, Tryd.ntmps32
    go_wp2_with (go_at_call 51; refine (contains_any _ l _ _ H hA (by simp; omega) HW.out hl).mono ?_; rintro e w1 ⟨rfl, hB⟩; replace hB := box_up hB)
    go_ret
    exact Ret.int (by simp [sheetE, hlong]) (box_below hB)
end Go.Proofs.YtogkgoabonbkkaaDoor
