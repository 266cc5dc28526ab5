/- torchonlaw01: names and texts. -/
import Derived.Test.YtohcmfobnkaaiaaDoorWQuote
import Derived.Test.YtohcmfobnkaaiaaDoorRNum2
set_option linter.unusedSimpArgs false
set_option linter.unusedVariables false
namespace Go.Proofs.YtohcmfobnkaaiaaDoor
open Go Go.RowKit Tor

def letN (n : Nat) : Bool := (decide (97 ≤ n) && decide (n ≤ 122)) || (decide (65 ≤ n) && decide (n ≤ 90))
def letB (x : UInt8) : Bool := letN x.toNat
def namB (x : UInt8) : Bool := letB x || (decide (x.toNat = 95) || digB x)
def nameP (L : List UInt8) : Bool := decide (1 ≤ L.length) && (decide (L.length ≤ 16) && ((L.head?.map letB).getD false && L.all namB))
theorem let_bits : ∀ n : Fin 256, (decide (97 ≤ bits BinOp.or IntKind.u8 (n.1 : Int) 32) && decide (bits BinOp.or IntKind.u8 (n.1 : Int) 32 ≤ 122)) = letN n.1 := by decide +kernel
set_option maxRecDepth 100000 in
theorem letter_any (x : UInt8) (w : World) : Calls Tryd.prog 53 #[.int .u8 x.toNat] w (Ret (.bool (letB x)) w) := by
  have hb := Lib.hid (let_bits ⟨x.toNat, x.toNat_lt⟩)
  have hl : Hid (letB x = letN x.toNat) := Lib.hid rfl
  rw [hl.out]
  go_enter Tryd.func53, Tryd.ntmps53
  go_wp2_with fail
  all_goals
    rename_i h
    go_ret
    refine ⟨?_, Below.refl _ _⟩
    rw [← hb.out]
    simp only
    first
      | (rw [decide_eq_false (show ¬ 97 ≤ bits BinOp.or IntKind.u8 (x.toNat : Int) 32 by omega), Bool.false_and]; try rfl)
      | (rw [decide_eq_true h, Bool.true_and]; try rfl)
set_option maxRecDepth 100000 in
theorem rletter_any (x : UInt8) (w : World) : Calls Tryd.prog 54 #[.int .u8 x.toNat] w (Ret (.bool (letB x)) w) := by
  have hl : Hid (letB x = letN x.toNat) := Lib.hid rfl
  rw [hl.out]
  go_enter Tryd.func54, Tryd.ntmps54
  go_wp2_with fail
  all_goals
    go_ret
    refine ⟨?_, Below.refl _ _⟩
    unfold letN
    refine ret_bool ?_
    rw [Bool.eq_iff_iff]
    simp only [Bool.or_eq_true, Bool.and_eq_true, decide_eq_true_eq, Bool.false_eq_true, true_iff, false_iff, iff_true, iff_false]
    omega

set_option maxRecDepth 100000 in
set_option maxHeartbeats 1000000 in
theorem wname_any (L : List UInt8) (w : World) (hs : L.length ≤ 4000000) : Calls Tryd.prog 25 #[.string (bN L)] w (Ret (.bool (nameP L)) w) := by
  have hz : (bN L).size = L.length := rfl
  obtain ⟨r, hr⟩ : ∃ r, Hid (nameP L = r) := ⟨_, Lib.hid rfl⟩
  rw [hr.out]
  go_enter Tryd.func25, Tryd.ntmps25
  go_wp2_with fail
  go_loopw [7] (fun i wr => ∃ j : Nat, j ≤ L.length ∧ i = .int .i64 j ∧ Hid (∀ k (hk : k < j) (hl : k < L.length), namB L[k] = true ∧ (k = 0 → letB L[k] = true)) ∧ Below w.heap.size w wr) (fun i _ => L.length - (intOf i).toNat)
  case atStart => exact ⟨0, by omega, rfl, Lib.hid (fun k hk => by omega), Below.refl _ _⟩
  case round =>
    obtain ⟨j, hj, rfl, hp, hB⟩ := hrel
    by_cases hlt : j < L.length
    · have a1 : (j : Int) < L.length := by omega
      obtain ⟨c, hc⟩ : ∃ c, Hid (L[j]'hlt = c) := ⟨_, Lib.hid rfl⟩
      have hsz : j < (bN L).size := hlt
      have hcb : (bN L)[j]'hsz = c := hc.out
      have HL := Lib.hid (fun (w' : World) => letter_any c w')
      have HD := Lib.hid (fun (w' : World) => digitN_any c w')
      obtain ⟨b1, hb1⟩ : ∃ b, Hid (letB c = b) := ⟨_, Lib.hid rfl⟩
      obtain ⟨b2, hb2⟩ : ∃ b, Hid (digB c = b) := ⟨_, Lib.hid rfl⟩
      rw [hb1.out] at HL
      rw [hb2.out] at HD
      have hno : (namB c = false ∨ (j = 0 ∧ letB c = false)) → Hid (r = false) := fun hh => by
        rw [Hid, ← hr.out]
        unfold nameP
        have hall : L.all namB = false ∨ (L.head?.map letB).getD false = false := by
          rcases hh with hh | ⟨rfl, hh⟩
          · left
            rw [List.all_eq_false]
            exact ⟨L[j]'hlt, List.getElem_mem hlt, by rw [hc.out, hh]; simp⟩
          · right
            rw [List.head?_eq_getElem?, List.getElem?_eq_getElem hlt]
            show letB (L[0]'hlt) = false
            rw [hc.out]; exact hh
        rcases hall with h | h <;> rw [h] <;> simp
      have hgo : namB c = true → (j = 0 → letB c = true) → Hid (∀ k (hk : k < j + 1) (hl : k < L.length), namB L[k] = true ∧ (k = 0 → letB L[k] = true)) := fun h1 h2 => Lib.hid (fun k hk hl => by
        rcases Nat.lt_or_ge k j with h | h
        · exact hp.out k h hl
        · obtain rfl : k = j := by omega
          show namB (L[k]'hlt) = true ∧ (k = 0 → letB (L[k]'hlt) = true)
          rw [hc.out]; exact ⟨h1, h2⟩)
      have hn : Hid (namB c = (b1 || (decide (c.toNat = 95) || b2))) := by rw [Hid]; unfold namB; rw [hb1.out, hb2.out]
      cases b1
      · by_cases h0 : j = 0
        · have hr0 := hno (.inr ⟨h0, hb1.out⟩)
          have j0 : ((j : Int) == 0) = true := by rw [h0]; rfl
          have HJ0 := Lib.hid h0
          clear hno hgo hp h0
          go_wp2_with (first
            | (go_at_call 53; refine (HL.out _).mono ?_; rintro e w1 ⟨rfl, hB1⟩)
            | fail)
          go_ret
          rw [hr0.out]
          exact ⟨rfl, hB.trans (hB1.mono hB.size)⟩
        · have j0 : ((j : Int) == 0) = false := beq_eq_false_iff_ne.2 (by omega)
          have j0' : ¬ (j : Int) = 0 := by omega
          by_cases h95 : c.toNat = 95
          · have hg := hgo (by rw [hn.out, decide_eq_true h95]; rfl) (fun h => absurd h h0)
            have e1 : ((c.toNat : Int) != 95) = false := by rw [h95]; rfl
            clear hno hgo h95
            go_wp2_with (first
              | (go_at_call 53; refine (HL.out _).mono ?_; rintro e w1 ⟨rfl, hB1⟩)
              | fail)
            go_roundw
            case rel => exact ⟨j + 1, by omega, by go_num, hg, hB.trans (hB1.mono hB.size)⟩
            case measure => simp [intOf]; omega
          · have e1 : ((c.toNat : Int) != 95) = true := by rw [bne_iff_ne]; omega
            have e2 : ¬ (c.toNat : Int) = 95 := by omega
            cases b2
            · have hr0 := hno (.inl (by rw [hn.out, decide_eq_false h95]; rfl))
              clear hno hgo hp
              go_wp2_with (first
                | (go_at_call 53; refine (HL.out _).mono ?_; rintro e w1 ⟨rfl, hB1⟩)
                | (go_at_call 48; refine (HD.out _).mono ?_; rintro e w2 ⟨rfl, hB2⟩)
                | fail)
              go_ret
              rw [hr0.out]
              exact ⟨rfl, hB.trans ((hB1.trans (hB2.mono hB1.size)).mono hB.size)⟩
            · have hg := hgo (by rw [hn.out, decide_eq_false h95]; rfl) (fun h => absurd h h0)
              clear hno hgo
              go_wp2_with (first
                | (go_at_call 53; refine (HL.out _).mono ?_; rintro e w1 ⟨rfl, hB1⟩)
                | (go_at_call 48; refine (HD.out _).mono ?_; rintro e w2 ⟨rfl, hB2⟩)
                | fail)
              go_roundw
              case rel => exact ⟨j + 1, by omega, by go_num, hg, hB.trans ((hB1.trans (hB2.mono hB1.size)).mono hB.size)⟩
              case measure => simp [intOf]; omega
      · have hg := hgo (by rw [hn.out]; rfl) (fun _ => hb1.out)
        clear hno hgo
        go_wp2_with (first
          | (go_at_call 53; refine (HL.out _).mono ?_; rintro e w1 ⟨rfl, hB1⟩)
          | fail)
        go_roundw
        case rel => exact ⟨j + 1, by omega, by go_num, hg, hB.trans (hB1.mono hB.size)⟩
        case measure => simp [intOf]; omega
    · obtain rfl : j = L.length := by omega
      have hall : L.all namB = true := by
        rw [List.all_eq_true]
        intro x hx
        obtain ⟨k, hk, rfl⟩ := List.getElem_of_mem hx
        exact (hp.out k hk hk).1
      have hrr : Hid (r = (decide (1 ≤ L.length) && decide (L.length ≤ 16))) := by
        rw [Hid, ← hr.out]
        unfold nameP
        rw [hall]
        by_cases h1 : 1 ≤ L.length
        · have h2 : (L.head?.map letB).getD false = true := by
            rw [List.head?_eq_getElem?, List.getElem?_eq_getElem (show 0 < L.length by omega)]
            exact (hp.out 0 (by omega) (by omega)).2 rfl
          rw [h2]; simp
        · rw [decide_eq_false h1]; rfl
      clear hp hall
      by_cases h1 : 1 ≤ L.length
      · have i1 : (1 : Int) ≤ L.length := by omega
        rw [decide_eq_true h1] at hrr
        by_cases h16 : L.length ≤ 16
        · have i2 : (L.length : Int) ≤ 16 := by omega
          rw [decide_eq_true h16] at hrr
          clear h1 h16
          go_wp2_with fail
          go_ret
          rw [hrr.out]
          exact ⟨rfl, hB⟩
        · have i2 : ¬ (L.length : Int) ≤ 16 := by omega
          rw [decide_eq_false h16] at hrr
          clear h1 h16
          go_wp2_with fail
          go_ret
          rw [hrr.out]
          exact ⟨by simp, hB⟩
      · have i1 : ¬ (1 : Int) ≤ L.length := by omega
        rw [decide_eq_false h1] at hrr
        clear h1
        go_wp2_with fail
        go_ret
        rw [hrr.out]
        exact ⟨by simp, hB⟩

set_option maxRecDepth 100000 in
set_option maxHeartbeats 1000000 in
theorem rname_any (L : List UInt8) (w : World) (hs : L.length ≤ 4000000) : Calls Tryd.prog 26 #[.string (bN L)] w (Ret (.bool (nameP L)) w) := by
  have hz : (bN L).size = L.length := rfl
  by_cases h1 : L.length < 1
  · have hP : Hid (nameP L = false) := by rw [Hid]; unfold nameP; rw [decide_eq_false (by omega)]; rfl
    rw [hP.out]
    have i1 : (L.length : Int) < 1 := by omega
    clear h1 hP
    go_enter Tryd.func26, Tryd.ntmps26
    go_wp2_with fail
    go_ret
    exact ⟨rfl, Below.refl _ _⟩
  have i1 : ¬ (L.length : Int) < 1 := by omega
  by_cases h16 : 16 < L.length
  · have hP : Hid (nameP L = false) := by rw [Hid]; unfold nameP; rw [decide_eq_true (show 1 ≤ L.length by omega), decide_eq_false (show ¬ L.length ≤ 16 by omega)]; rfl
    rw [hP.out]
    have i2 : (16 : Int) < L.length := by omega
    clear h1 h16 hP
    go_enter Tryd.func26, Tryd.ntmps26
    go_wp2_with fail
    go_ret
    exact ⟨rfl, Below.refl _ _⟩
  have i2 : ¬ (16 : Int) < L.length := by omega
  have h0 : 0 < L.length := by omega
  obtain ⟨c0, hc0⟩ : ∃ c, Hid (L[0]'h0 = c) := ⟨_, Lib.hid rfl⟩
  have hsz0 : 0 < (bN L).size := h0
  have hcb0 : (bN L)[0]'hsz0 = c0 := hc0.out
  have hhd : Hid ((L.head?.map letB).getD false = letB c0) := by
    rw [Hid, List.head?_eq_getElem?, List.getElem?_eq_getElem h0]
    show letB (L[0]'h0) = _
    rw [hc0.out]
  have HL0 := Lib.hid (fun (w' : World) => rletter_any c0 w')
  have hP : Hid (nameP L = (letB c0 && L.all namB)) := by
    rw [Hid]; unfold nameP
    rw [decide_eq_true (show 1 ≤ L.length by omega), decide_eq_true (show L.length ≤ 16 by omega), hhd.out]; rfl
  rw [hP.out]
  obtain ⟨b0, hb0⟩ : ∃ b, Hid (letB c0 = b) := ⟨_, Lib.hid rfl⟩
  rw [hb0.out] at HL0 ⊢
  clear h1 h16
  cases b0
  · rw [Bool.false_and]
    go_enter Tryd.func26, Tryd.ntmps26
    go_wp2_with (first
      | (go_at_call 54; refine (HL0.out _).mono ?_; rintro e w1 ⟨rfl, hB1⟩)
      | fail)
    go_ret
    exact ⟨rfl, hB1⟩
  rw [Bool.true_and]
  obtain ⟨r, hr⟩ : ∃ r, Hid (L.all namB = r) := ⟨_, Lib.hid rfl⟩
  rw [hr.out]
  go_enter Tryd.func26, Tryd.ntmps26
  go_wp2_with (first
    | (go_at_call 54; refine (HL0.out _).mono ?_; rintro e w1 ⟨rfl, hB0⟩)
    | fail)
  clear HL0
  go_loopw [3] (fun i wr => ∃ j : Nat, j ≤ L.length ∧ i = .int .i64 j ∧ Hid (∀ k (hk : k < j) (hl : k < L.length), namB L[k] = true) ∧ Below w.heap.size w wr) (fun i _ => L.length - (intOf i).toNat)
  case atStart => exact ⟨0, by omega, rfl, Lib.hid (fun k hk => by omega), hB0⟩
  case round =>
    clear hcb0
    obtain ⟨j, hj, rfl, hp, hB⟩ := hrel
    by_cases hlt : j < L.length
    · have a1 : (j : Int) < L.length := by omega
      obtain ⟨c, hc⟩ : ∃ c, Hid (L[j]'hlt = c) := ⟨_, Lib.hid rfl⟩
      have hsz : j < (bN L).size := hlt
      have hcb : (bN L)[j]'hsz = c := hc.out
      have HL := Lib.hid (fun (w' : World) => rletter_any c w')
      have HD := Lib.hid (fun (w' : World) => rdigitN_any c w')
      obtain ⟨b1, hb1⟩ : ∃ b, Hid (letB c = b) := ⟨_, Lib.hid rfl⟩
      obtain ⟨b2, hb2⟩ : ∃ b, Hid (digB c = b) := ⟨_, Lib.hid rfl⟩
      rw [hb1.out] at HL
      rw [hb2.out] at HD
      have hno : namB c = false → Hid (r = false) := fun hh => by
        rw [Hid, ← hr.out, List.all_eq_false]
        exact ⟨L[j]'hlt, List.getElem_mem hlt, by rw [hc.out, hh]; simp⟩
      have hgo : namB c = true → Hid (∀ k (hk : k < j + 1) (hl : k < L.length), namB L[k] = true) := fun h1 => Lib.hid (fun k hk hl => by
        rcases Nat.lt_or_ge k j with h | h
        · exact hp.out k h hl
        · obtain rfl : k = j := by omega
          show namB (L[k]'hlt) = true
          rw [hc.out]; exact h1)
      have hn : Hid (namB c = (b1 || (decide (c.toNat = 95) || b2))) := by rw [Hid]; unfold namB; rw [hb1.out, hb2.out]
      cases b1
      · cases b2
        · by_cases h95 : c.toNat = 95
          · have hg := hgo (by rw [hn.out, decide_eq_true h95]; rfl)
            have e1 : ((c.toNat : Int) != 95) = false := by rw [h95]; rfl
            clear hno hgo h95
            go_wp2_with (first
              | (go_at_call 54; refine (HL.out _).mono ?_; rintro e w1 ⟨rfl, hB1⟩)
              | (go_at_call 51; refine (HD.out _).mono ?_; rintro e w2 ⟨rfl, hB2⟩)
              | fail)
            go_roundw
            case rel => exact ⟨j + 1, by omega, by go_num, hg, hB.trans ((hB1.trans (hB2.mono hB1.size)).mono hB.size)⟩
            case measure => simp [intOf]; omega
          · have hr0 := hno (by rw [hn.out, decide_eq_false h95]; rfl)
            have e1 : ((c.toNat : Int) != 95) = true := by rw [bne_iff_ne]; omega
            clear hno hgo h95 hp
            go_wp2_with (first
              | (go_at_call 54; refine (HL.out _).mono ?_; rintro e w1 ⟨rfl, hB1⟩)
              | (go_at_call 51; refine (HD.out _).mono ?_; rintro e w2 ⟨rfl, hB2⟩)
              | fail)
            go_ret
            rw [hr0.out]
            exact ⟨rfl, hB.trans ((hB1.trans (hB2.mono hB1.size)).mono hB.size)⟩
        · have hg := hgo (by rw [hn.out]; simp)
          clear hno hgo
          go_wp2_with (first
            | (go_at_call 54; refine (HL.out _).mono ?_; rintro e w1 ⟨rfl, hB1⟩)
            | (go_at_call 51; refine (HD.out _).mono ?_; rintro e w2 ⟨rfl, hB2⟩)
            | fail)
          go_roundw
          case rel => exact ⟨j + 1, by omega, by go_num, hg, hB.trans ((hB1.trans (hB2.mono hB1.size)).mono hB.size)⟩
          case measure => simp [intOf]; omega
      · have hg := hgo (by rw [hn.out]; rfl)
        clear hno hgo
        go_wp2_with (first
          | (go_at_call 54; refine (HL.out _).mono ?_; rintro e w1 ⟨rfl, hB1⟩)
          | fail)
        go_roundw
        case rel => exact ⟨j + 1, by omega, by go_num, hg, hB.trans (hB1.mono hB.size)⟩
        case measure => simp [intOf]; omega
    · obtain rfl : j = L.length := by omega
      have hrr : Hid (r = true) := by
        rw [Hid, ← hr.out, List.all_eq_true]
        intro x hx
        obtain ⟨k, hk, rfl⟩ := List.getElem_of_mem hx
        exact hp.out k hk hk
      clear hp
      go_wp2_with fail
      go_ret
      rw [hrr.out]
      exact ⟨rfl, hB⟩

set_option maxRecDepth 100000 in
set_option maxHeartbeats 1000000 in
theorem rtext_any (L : List UInt8) (w : World) (hs : L.length ≤ 4000000) : Calls Tryd.prog 28 #[.string (bN L)] w (Ret (.bool (textB L)) w) := by
  have hz : (bN L).size = L.length := rfl
  have hT : Hid (textB L = (decide (L.length ≤ 200) && prB 32 L)) := Lib.hid rfl
  rw [hT.out]
  obtain ⟨r, hr⟩ : ∃ r, Hid (prB 32 L = r) := ⟨_, Lib.hid rfl⟩
  rw [hr.out]
  go_enter Tryd.func28, Tryd.ntmps28
  go_wp2_with fail
  go_loopw [3] (fun i wr => ∃ j : Nat, j ≤ L.length ∧ i = .int .i64 j ∧ Hid (prB 32 (L.take j) = true) ∧ wr = w) (fun i _ => L.length - (intOf i).toNat)
  case atStart => exact ⟨0, by omega, rfl, Lib.hid rfl, rfl⟩
  case round =>
    obtain ⟨j, hj, rfl, hp, rfl⟩ := hrel
    by_cases hlt : j < L.length
    · have a1 : (j : Int) < L.length := by omega
      obtain ⟨c, hc⟩ : ∃ c, Hid (L[j]'hlt = c) := ⟨_, Lib.hid rfl⟩
      have hsz : j < (bN L).size := hlt
      have hcb : (bN L)[j]'hsz = c := hc.out
      have hno : (¬ 32 ≤ c.toNat ∨ ¬ c.toNat ≤ 126) → Hid (r = false) := fun hh => by
        rw [Hid, ← hr.out]
        unfold prB
        rw [List.all_eq_false]
        refine ⟨L[j]'hlt, List.getElem_mem hlt, ?_⟩
        rw [hc.out]
        simp only [Bool.and_eq_true, decide_eq_true_eq]
        omega
      by_cases h1 : (c.toNat : Int) < 32
      · have hr0 := hno (by omega)
        clear hno hp
        go_wp2_with fail
        go_ret
        rw [hr0.out]
        exact ⟨by simp, Below.refl _ _⟩
      · by_cases h2 : 126 < (c.toNat : Int)
        · have hr0 := hno (by omega)
          clear hno hp
          go_wp2_with fail
          go_ret
          rw [hr0.out]
          exact ⟨by simp, Below.refl _ _⟩
        · have hg : Hid (prB 32 (L.take (j + 1)) = true) := by
            rw [Hid]
            unfold prB
            rw [List.take_add_one, List.getElem?_eq_getElem hlt, List.all_append]
            have := hp.out
            unfold prB at this
            rw [this, Bool.true_and]
            simp only [Option.toList_some, List.all_cons, List.all_nil, Bool.and_true, hc.out]
            rw [decide_eq_true (by omega), decide_eq_true (by omega)]
            rfl
          clear hno
          go_wp2_with fail
          go_roundw
          case rel => exact ⟨j + 1, by omega, by go_num, hg, trivial⟩
          case measure => simp [intOf]; omega
    · obtain rfl : j = L.length := by omega
      have hr1 : Hid (r = true) := by rw [Hid, ← hr.out]; have := hp.out; rw [List.take_length] at this; exact this
      clear hp
      go_wp2_with fail
      go_ret
      rw [hr1.out]
      refine ⟨ret_bool ?_, Below.refl _ _⟩
      rw [Bool.and_true, decide_eq_decide]
      omega
end Go.Proofs.YtohcmfobnkaaiaaDoor
