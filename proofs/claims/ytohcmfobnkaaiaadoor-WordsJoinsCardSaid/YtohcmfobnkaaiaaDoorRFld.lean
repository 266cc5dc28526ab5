/- torchonref01: Right, end. -/
import Derived.Test.YtohcmfobnkaaiaaDoorWField
import Derived.Test.YtohcmfobnkaaiaaDoorRQuo
import Derived.Test.YtohcmfobnkaaiaaDoorSplM
set_option linter.unusedSimpArgs false
set_option linter.unusedVariables false
namespace Go.Proofs.YtohcmfobnkaaiaaDoor
open Go Go.RowKit Tor

/-- no blank and no quotation mark -/
def pure (L : List UInt8) : Bool := L.all fun c => decide (c ≠ 32) && decide (c ≠ 34)
theorem rightF_eq (L : List UInt8) : rightF ⟨false, L⟩ = (decide (L ≠ []) && (pure L && textB L)) := by
  unfold rightF pure textB
  simp only [Bool.false_eq_true, if_false]
  congr 1
  rw [Bool.eq_iff_iff]
  simp only [Bool.and_eq_true, decide_eq_true_eq, List.all_eq_true, Bool.not_eq_true', List.contains_eq_mem, decide_eq_false_iff_not]
  constructor
  · rintro ⟨h1, h2, h3⟩
    refine ⟨fun x hx => ⟨fun e => ?_, fun e => h3 (e ▸ hx)⟩, h1, fun x hx => ?_⟩
    · have := (h2 x hx).1
      rw [e] at this
      exact absurd this (by decide)
    · have := h2 x hx; omega
  · rintro ⟨h1, h2, h3⟩
    refine ⟨h2, fun x hx => ?_, fun hm => (h1 34 hm).2 rfl⟩
    have a := h3 x hx
    have b : x.toNat ≠ 32 := fun e => (h1 x hx).1 (UInt8.toNat.inj (by show x.toNat = 32; exact e))
    omega
set_option maxRecDepth 100000 in
set_option maxHeartbeats 2000000 in
theorem rright_any (x : Fld) (w : World) (hs : x.s.length ≤ 1000000) : Calls Tryd.prog 59 #[.agg #[.bool x.q, .string (bN x.s)]] w (Ret (.bool (rightF x)) w) := by
  obtain ⟨q, L⟩ := x
  simp only at hs ⊢
  have hz : (bN L).size = L.length := rfl
  have HT := Lib.hid (fun w => rtext_any L w (by omega))
  have kB := Blk.new w 59 #[.bool q, .string (bN L)]
  have hB0 : Below w.heap.size w (w.alloc (.cells #[.bool q, .string (bN L)] 59)) := (Below.refl _ _).alloc (Nat.le_refl _) _
  obtain ⟨b, hb⟩ : ∃ b, Hid (textB L = b) := ⟨_, Lib.hid rfl⟩
  cases q
  · have hP : Hid (rightF ⟨false, L⟩ = (decide (L ≠ []) && (pure L && b))) := by rw [Hid, rightF_eq, hb.out]
    rw [hb.out] at HT
    obtain ⟨r, hr⟩ : ∃ r, Hid (rightF ⟨false, L⟩ = r) := ⟨_, Lib.hid rfl⟩
    rw [hr.out]
    have hR : Hid (r = (decide (L ≠ []) && (pure L && b))) := by rw [Hid, ← hr.out, hP.out]
    clear hr hP hb
    by_cases h0 : L.length = 0
    · have hrf : Hid (r = false) := by
        rw [Hid, hR.out, List.eq_nil_of_length_eq_zero h0]; rfl
      have a1 : ((L.length : Int) == 0) = true := by rw [h0]; rfl
      have a2 : (L.length : Int) = 0 := by omega
      clear hR h0
      go_enter Tryd.func59, Tryd.ntmps59
      go_wp2_with fail
      go_ret
      rw [hrf.out]
      exact ⟨rfl, hB0⟩
    have a1 : ((L.length : Int) == 0) = false := by rw [beq_eq_false_iff_ne]; omega
    have a2 : ¬ (L.length : Int) = 0 := by omega
    have c1 := kB.cell 1 _ rfl
    have c0 := kB.cell 0 _ rfl
    go_enter Tryd.func59, Tryd.ntmps59
    go_wp2_with fail
    go_loopw [3] (fun i wr => ∃ j : Nat, j ≤ L.length ∧ i = .int .i64 j ∧ Hid (pure (L.take j) = true) ∧ wr = w.alloc (.cells #[.bool false, .string (bN L)] 59)) (fun i _ => L.length - (intOf i).toNat)
    case atStart => exact ⟨0, by omega, rfl, Lib.hid rfl, rfl⟩
    case round =>
      obtain ⟨j, hj, rfl, hp, rfl⟩ := hrel
      by_cases hlt : j < L.length
      · have a3 : (j : Int) < L.length := by omega
        obtain ⟨c, hc⟩ : ∃ c, Hid (L[j]'hlt = c) := ⟨_, Lib.hid rfl⟩
        have hsz : j < (bN L).size := hlt
        have hcb : (bN L)[j]'hsz = c := hc.out
        have hno : (c = 32 ∨ c = 34) → Hid (r = false) := fun hh => by
          rw [Hid, hR.out]
          have : pure L = false := by
            unfold pure
            rw [List.all_eq_false]
            refine ⟨L[j]'hlt, List.getElem_mem hlt, ?_⟩
            rw [hc.out]
            rcases hh with rfl | rfl <;> decide
          rw [this]; simp
        by_cases h32 : c = 32
        · have e1 : ((c.toNat : Int) == 32) = true := by rw [h32]; rfl
          have e2 : (c.toNat : Int) = 32 := by rw [h32]; rfl
          have hrf := hno (.inl h32)
          clear hno hp h32 hR
          go_wp2_with fail
          go_ret
          rw [hrf.out]
          exact ⟨rfl, hB0⟩
        · have e1 : ((c.toNat : Int) == 32) = false := by
            rw [beq_eq_false_iff_ne]; exact fun he => h32 (UInt8.toNat.inj (by show c.toNat = 32; omega))
          by_cases h34 : c = 34
          · have e3 : ((c.toNat : Int) == 34) = true := by rw [h34]; rfl
            have hrf := hno (.inr h34)
            clear hno hp h32 h34 hR
            go_wp2_with fail
            go_ret
            rw [hrf.out]
            exact ⟨rfl, hB0⟩
          · have e3 : ((c.toNat : Int) == 34) = false := beq_eq_false_iff_ne.2 (ne34i h34)
            have hg : Hid (pure (L.take (j + 1)) = true) := by
              rw [Hid]
              unfold pure
              rw [List.take_add_one, List.getElem?_eq_getElem hlt, List.all_append]
              have := hp.out
              unfold pure at this
              rw [this, Bool.true_and]
              simp only [Option.toList_some, List.all_cons, List.all_nil, Bool.and_true, hc.out]
              rw [decide_eq_true h32, decide_eq_true h34]; rfl
            clear hno h32 h34
            go_wp2_with fail
            go_roundw
            case rel => exact ⟨j + 1, by omega, by go_num, hg, trivial⟩
            case measure => simp [intOf]; omega
      · obtain rfl : j = L.length := by omega
        have hrb : Hid (r = b) := by
          have := hp.out
          rw [List.take_length] at this
          have hne : L ≠ [] := fun e => h0 (by rw [e]; rfl)
          rw [Hid, hR.out, this]; simp [hne]
        clear hp hR h0
        go_wp2_with (first
          | (go_at_call 28; refine (HT.out _).mono ?_; rintro e w1 ⟨rfl, hB1⟩)
          | fail)
        go_ret
        rw [hrb.out]
        exact ⟨rfl, hB0.trans (hB1.mono hB0.size)⟩
  · have hP : Hid (rightF ⟨true, L⟩ = textB L) := Lib.hid rfl
    rw [hP.out]
    rw [hb.out] at HT ⊢
    clear hb hP
    have c1 := kB.cell 1 _ rfl
    have c0 := kB.cell 0 _ rfl
    go_enter Tryd.func59, Tryd.ntmps59
    go_wp2_with (first
      | (go_at_call 28
         refine (HT.out _).mono ?_
         rintro e w1 ⟨rfl, hB1⟩)
      | fail)
    go_ret
    exact ⟨rfl, hB0.trans (hB1.mono hB0.size)⟩

/-- how far the first blank is -/
def rbl : List UInt8 → Nat
  | [] => 0
  | c :: r => if c = 32 then 0 else 1 + rbl r
/-- how far the first lone quotation mark reaches -/
def rqu : List UInt8 → Nat
  | [] => 0
  | [c] => 1
  | c :: d :: r => if c = 34 then (if d = 34 then 2 + rqu r else 1) else 1 + rqu (d :: r)
def rendK : List UInt8 → Nat
  | [] => 0
  | c :: r => if c = 34 then 1 + rqu r else rbl (c :: r)
theorem rbl_le : ∀ L, rbl L ≤ L.length
  | [] => Nat.le_refl _
  | c :: r => by have := rbl_le r; rw [rbl]; split <;> simp <;> omega
theorem rqu_le : ∀ L, rqu L ≤ L.length
  | [] => Nat.le_refl _
  | [c] => Nat.le_refl _
  | c :: d :: r => by
    have := rqu_le r; have h2 := rqu_le (d :: r)
    rw [rqu]
    simp at h2 ⊢
    split
    · split <;> omega
    · omega
theorem rqu_ne {c : UInt8} (hc : c ≠ 34) (r : List UInt8) : rqu (c :: r) = 1 + rqu r := by
  cases r with
  | nil => rfl
  | cons d t => rw [rqu, if_neg hc]
set_option maxRecDepth 100000 in
set_option maxHeartbeats 2000000 in
theorem rend_any (L : List UInt8) (f : Nat) (hf : f < L.length) (hs : L.length ≤ 1000000) (w : World) : Calls Tryd.prog 58 #[.string (bN L), .int .i64 (f : Int)] w (Ret (.int .i64 ((f + rendK (L.drop f) : Nat) : Int)) w) := by
  have hz : (bN L).size = L.length := rfl
  have hfz : f < (bN L).size := hf
  obtain ⟨q, hq⟩ : ∃ c, Hid (L[f]'hf = c) := ⟨_, Lib.hid rfl⟩
  have hqb : (bN L)[f]'hfz = q := hq.out
  obtain ⟨T, hT⟩ : ∃ T, Hid (f + rendK (L.drop f) = T) := ⟨_, Lib.hid rfl⟩
  rw [hT.out]
  have a0 : (f : Int) < L.length := by omega
  by_cases h34 : q = 34
  · have e0 : ((q.toNat : Int) == 34) = true := by rw [h34]; rfl
    have e0' : (q.toNat : Int) = 34 := by rw [h34]; rfl
    have hT1 : Hid (T = f + 1 + rqu (L.drop (f + 1))) := by
      rw [Hid, ← hT.out, List.drop_eq_getElem_cons hf, hq.out, rendK, if_pos h34]; omega
    clear hT h34 hq
    go_enter Tryd.func58, Tryd.ntmps58
    go_wp2_with fail
    go_loopw [6] (fun i wr => ∃ j : Nat, j ≤ L.length ∧ i = .int .i64 j ∧ Hid (T = j + rqu (L.drop j)) ∧ wr = w) (fun i _ => L.length - (intOf i).toNat)
    case atStart => exact ⟨f + 1, by omega, by go_num, hT1, rfl⟩
    case round =>
      obtain ⟨j, hj, rfl, hp, rfl⟩ := hrel
      by_cases hlt : j < L.length
      · have a1 : (j : Int) < L.length := by omega
        obtain ⟨c, hc⟩ : ∃ c, Hid (L[j]'hlt = c) := ⟨_, Lib.hid rfl⟩
        have hsz : j < (bN L).size := hlt
        have hcb : (bN L)[j]'hsz = c := hc.out
        have hdr := List.drop_eq_getElem_cons hlt
        rw [hc.out] at hdr
        by_cases hc34 : c = 34
        · have e1 : ((c.toNat : Int) == 34) = true := by rw [hc34]; rfl
          have e1' : (c.toNat : Int) = 34 := by rw [hc34]; rfl
          by_cases hend : j + 1 = L.length
          · have hTj : Hid (T = j + 1) := by
              rw [Hid, hp.out, hdr, List.drop_eq_nil_of_le (by omega)]; rfl
            have e2 : ((j : Int) + 1 == (L.length : Int)) = true := by rw [beq_iff_eq]; omega
            have e3 : (j : Int) + 1 = (L.length : Int) := by omega
            clear hp hdr hc34 hend
            go_wp2_with fail
            go_ret
            rw [hTj.out]
            exact ⟨by go_num, Below.refl _ _⟩
          · have hlt2 : j + 1 < L.length := by omega
            obtain ⟨d, hd⟩ : ∃ c, Hid (L[j + 1]'hlt2 = c) := ⟨_, Lib.hid rfl⟩
            have hsz2 : j + 1 < (bN L).size := hlt2
            have hdb : (bN L)[j + 1]'hsz2 = d := hd.out
            have hdr2 := List.drop_eq_getElem_cons hlt2
            rw [hd.out] at hdr2
            have e2 : ((j : Int) + 1 == (L.length : Int)) = false := by rw [beq_eq_false_iff_ne]; omega
            have e3 : ¬ (j : Int) + 1 = (L.length : Int) := by omega
            have a2 : (j : Int) + 1 < L.length := by omega
            by_cases hd34 : d = 34
            · have e4 : ((d.toNat : Int) != 34) = false := by rw [hd34]; rfl
              have hN : Hid (T = (j + 2) + rqu (L.drop (j + 2))) := by
                rw [Hid, hp.out, hdr, hdr2, hc34, hd34, rqu, if_pos rfl, if_pos rfl, show j + 1 + 1 = j + 2 from rfl]; omega
              clear hp hdr hdr2 hc34 hd34 hend
              go_wp2_with fail
              go_roundw
              case rel => exact ⟨j + 2, by omega, by go_num, hN, trivial⟩
              case measure => simp [intOf]; omega
            · have e4 : ((d.toNat : Int) != 34) = true := by rw [bne_iff_ne]; exact ne34i hd34
              have hTj : Hid (T = j + 1) := by
                rw [Hid, hp.out, hdr, hdr2, hc34, rqu, if_pos rfl, if_neg hd34]
              clear hp hdr hdr2 hc34 hd34 hend
              go_wp2_with fail
              go_ret
              rw [hTj.out]
              exact ⟨by go_num, Below.refl _ _⟩
        · have e1 : ((c.toNat : Int) == 34) = false := beq_eq_false_iff_ne.2 (ne34i hc34)
          have e1' : ¬ (c.toNat : Int) = 34 := ne34i hc34
          have hN : Hid (T = (j + 1) + rqu (L.drop (j + 1))) := by
            rw [Hid, hp.out, hdr, rqu_ne hc34]; omega
          clear hp hdr hc34
          go_wp2_with fail
          go_roundw
          case rel => exact ⟨j + 1, by omega, by go_num, hN, trivial⟩
          case measure => simp [intOf]; omega
      · obtain rfl : j = L.length := by omega
        have hTj : Hid (T = L.length) := by
          rw [Hid, hp.out, List.drop_eq_nil_of_le (Nat.le_refl _)]; rfl
        clear hp
        go_wp2_with fail
        go_ret
        rw [hTj.out]
        exact ⟨rfl, Below.refl _ _⟩
  · have e0 : ((q.toNat : Int) == 34) = false := beq_eq_false_iff_ne.2 (ne34i h34)
    have e0' : ¬ (q.toNat : Int) = 34 := ne34i h34
    have hT1 : Hid (T = f + rbl (L.drop f)) := by
      rw [Hid, ← hT.out, List.drop_eq_getElem_cons hf, hq.out, rendK, if_neg h34]
    clear hT h34 hq
    go_enter Tryd.func58, Tryd.ntmps58
    go_wp2_with fail
    go_loopw [6] (fun i wr => ∃ j : Nat, j ≤ L.length ∧ i = .int .i64 j ∧ Hid (T = j + rbl (L.drop j)) ∧ wr = w) (fun i _ => L.length - (intOf i).toNat)
    case atStart => exact ⟨f, by omega, rfl, hT1, rfl⟩
    case round =>
      obtain ⟨j, hj, rfl, hp, rfl⟩ := hrel
      by_cases hlt : j < L.length
      · have a1 : (j : Int) < L.length := by omega
        obtain ⟨c, hc⟩ : ∃ c, Hid (L[j]'hlt = c) := ⟨_, Lib.hid rfl⟩
        have hsz : j < (bN L).size := hlt
        have hcb : (bN L)[j]'hsz = c := hc.out
        have hdr := List.drop_eq_getElem_cons hlt
        rw [hc.out] at hdr
        by_cases hc32 : c = 32
        · have e1 : ((c.toNat : Int) == 32) = true := by rw [hc32]; rfl
          have e1' : (c.toNat : Int) = 32 := by rw [hc32]; rfl
          have hTj : Hid (T = j) := by
            rw [Hid, hp.out, hdr, rbl, if_pos hc32]; rfl
          clear hp hdr hc32
          go_wp2_with fail
          go_ret
          rw [hTj.out]
          exact ⟨rfl, Below.refl _ _⟩
        · have e1' : ¬ (c.toNat : Int) = 32 := fun he => hc32 (UInt8.toNat.inj (by show c.toNat = 32; omega))
          have e1 : ((c.toNat : Int) == 32) = false := beq_eq_false_iff_ne.2 e1'
          have hN : Hid (T = (j + 1) + rbl (L.drop (j + 1))) := by
            rw [Hid, hp.out, hdr, rbl, if_neg hc32]; omega
          clear hp hdr hc32
          go_wp2_with fail
          go_roundw
          case rel => exact ⟨j + 1, by omega, by go_num, hN, trivial⟩
          case measure => simp [intOf]; omega
      · obtain rfl : j = L.length := by omega
        have hTj : Hid (T = L.length) := by
          rw [Hid, hp.out, List.drop_eq_nil_of_le (Nat.le_refl _)]; rfl
        clear hp
        go_wp2_with fail
        go_ret
        rw [hTj.out]
        exact ⟨rfl, Below.refl _ _⟩
end Go.Proofs.YtohcmfobnkaaiaaDoor
