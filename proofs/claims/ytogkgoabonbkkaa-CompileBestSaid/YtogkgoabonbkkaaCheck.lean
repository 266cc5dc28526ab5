/- index, IndexByte; Check of words (program and reference). -/
import Derived.Test.YtogkgoabonbkkaaSmall
import Derived.Test.YtogkgoabonbkkaaPlain
set_option linter.unusedSimpArgs false
set_option linter.unusedVariables false
namespace Go.Proofs.Ytogkgoabonbkkaa
open Go Go.RowKit Tor

theorem index_any (s : ByteArray) (c : UInt8) (w : World) (hs : s.size ≤ 1000000) :
    Calls Try.prog 77 #[.string s, .int .u8 c.toNat] w (Ret (.int .i64 (Lib.indexByte s.data.toList c)) w) := by
  go_enter Try.func77, Try.ntmps77
  go_wp2
  go_loop [5] (fun i => ∃ k : Nat, k ≤ s.size ∧ i = .int .i64 k ∧ Hid (∀ j, j < k → s.data.toList[j]? ≠ some c)) (fun i => s.size - (intOf i).toNat)
  case atStart => exact ⟨0, Nat.zero_le _, rfl, fun j hj => by omega⟩
  case round =>
    obtain ⟨k, hk, rfl, hno⟩ := hrel
    by_cases hlt : k < s.size
    · go_wp2
      · go_ret
        have h : ((s[k].toNat : Int) == (c.toNat : Int)) = true := by assumption
        have h' : s[k] = c := UInt8.toNat_inj.1 (by simp at h; omega)
        exact Ret.int (idx_at _ c k hno.out (by rw [bget s k hlt, h'])).symm (Below.refl _ _)
      · have h : ((s[k].toNat : Int) == (c.toNat : Int)) = false := by assumption
        have h' : s[k] ≠ c := fun e => by rw [e] at h; simp at h
        go_round
        case rel =>
          refine ⟨k + 1, by omega, by go_num, fun j hj => ?_⟩
          rcases Nat.lt_or_ge j k with hjk | hjk
          · exact hno.out j hjk
          · obtain rfl : j = k := by omega
            rw [bget s j hlt]
            simpa using h'
        case measure => simp [intOf]; omega
    · go_wp2
      go_ret
      exact Ret.int (idx_none _ c (fun j hj => hno.out j (by rw [bsize] at hj; omega))).symm (Below.refl _ _)

theorem ibs (s : ByteArray) (c : Int) (w : World) : (callFunc 86 #[.string s, .int .u8 c]).run Try.prog w = .ok (.value (.int .i64 (Lib.indexByte s.data.toList c.toNat.toUInt8))) w := by
  rw [run_callFunc_extern (e := Extern.BytealgIndexByte.indexByte) Try.func86 (by kernel_rfl) (by kernel_rfl) (by kernel_rfl) (by kernel_rfl), Lib.run_indexByteString]
  rfl

theorem indexByte_any (s : ByteArray) (c : UInt8) (w : World) :
    Calls Try.prog 80 #[.string s, .int .u8 c.toNat] w (Ret (.int .i64 (Lib.indexByte s.data.toList c)) w) := by
  have h := ibs s c.toNat
  have e : ((c.toNat : Int)).toNat.toUInt8 = c := by simp
  rw [e] at h
  go_enter Try.func80, Try.ntmps80
  go_wp2_with go_in
  go_ret
  exact Ret.int rfl (Below.refl _ _)

/-- what the walk of one letter gives -/
theorem letterRef (c : UInt8) (w : World) :
    Calls Try.prog 77 #[.string ⟨#[67, 84, 76, 82, 80, 99, 116, 108, 114]⟩, .int .u8 c.toNat] w (Ret (.int .i64 (Lib.indexByte lettersL c)) w) := index_any letters c w (by decide)
theorem letterIdx (c : UInt8) (w : World) :
    Calls Try.prog 80 #[.string ⟨#[67, 84, 76, 82, 80, 99, 116, 108, 114]⟩, .int .u8 c.toNat] w (Ret (.int .i64 (Lib.indexByte lettersL c)) w) := indexByte_any letters c w

theorem wordE_all (s : ByteArray) (k : Nat) (h16 : ¬ 16 < s.size) (hlt : ¬ k < s.size) (hno : (s.data.toList.take k).all isLetter = true) : wordE s = 0 := by
  rw [take_all _ _ (by rw [bsize]; exact hlt)] at hno
  simp [wordE, h16, hno]
theorem wordE_not (s : ByteArray) (k : Nat) (h16 : ¬ 16 < s.size) (hlt : k < s.size) (h2 : isLetter s[k] = false) : wordE s = 6 := by
  have := all_not s.data.toList k (by rw [bsize]; exact hlt) (by rw [bgetL s k hlt]; exact h2)
  simp [wordE, h16, this]
theorem wordE_step (s : ByteArray) (k : Nat) (hlt : k < s.size) (hno : (s.data.toList.take k).all isLetter = true) (h2 : isLetter s[k] = true) : (s.data.toList.take (k + 1)).all isLetter = true :=
  all_snoc _ k (by rw [bsize]; exact hlt) hno (by rw [bgetL s k hlt]; exact h2)

theorem wordRef_any (s : ByteArray) (w : World) (hs : s.size ≤ 9223372036854775807) :
    Calls Try.prog 55 #[.string s] w (Ret (.int .i64 (wordE s)) w) := by
  by_cases h16 : 16 < s.size
  · go_enter Try.func55, Try.ntmps55
    go_wp2
    go_ret
    exact Ret.int (by simp [wordE, h16]) (Below.refl _ _)
  · go_enter Try.func55, Try.ntmps55
    go_wp2
    go_loopw [3] (fun i wr => ∃ k : Nat, k ≤ s.size ∧ i = .int .i64 k ∧ Hid ((s.data.toList.take k).all isLetter = true) ∧ Below w.heap.size w wr) (fun i _ => s.size - (intOf i).toNat)
    case atStart => exact ⟨0, Nat.zero_le _, rfl, by simp [Hid], Below.refl _ _⟩
    case round =>
      obtain ⟨k, hk, rfl, hno, hB⟩ := hrel
      by_cases hlt : k < s.size
      · by_cases hl : Lib.indexByte lettersL s[k] < 0
        · go_wp2_with (go_at_call 77; refine (letterRef _ _).mono ?_; rintro e w1 ⟨rfl, hB1⟩)
          go_ret
          exact Ret.int (wordE_not s k h16 hlt ((isLetter_neg _).1 hl)).symm (hB.trans (hB1.mono hB.size))
        · go_wp2_with (go_at_call 77; refine (letterRef _ _).mono ?_; rintro e w1 ⟨rfl, hB1⟩)
          go_roundw
          case rel => exact ⟨k + 1, by omega, by go_num, wordE_step s k hlt hno.out ((isLetter_pos _).1 (by omega)), hB.trans (hB1.mono hB.size)⟩
          case measure => simp [intOf]; omega
      · go_wp2
        go_ret
        exact Ret.int (wordE_all s k h16 hlt hno.out).symm hB

theorem word_any (s : ByteArray) (w : World) (hs : s.size ≤ 9223372036854775807) :
    Calls Try.prog 66 #[.string s] w (Ret (.int .i64 (wordE s)) w) := by
  by_cases h16 : 16 < s.size
  · go_enter Try.func66, Try.ntmps66
    go_wp2
    go_ret
    exact Ret.int (by simp [wordE, h16]) (Below.refl _ _)
  · go_enter Try.func66, Try.ntmps66
    go_wp2
    go_loopw [9] (fun i wr => ∃ k : Nat, k ≤ s.size ∧ i = .int .i64 k ∧ Hid ((s.data.toList.take k).all isLetter = true) ∧ Below w.heap.size w wr) (fun i _ => s.size - (intOf i).toNat)
    case atStart => exact ⟨0, Nat.zero_le _, rfl, by simp [Hid], Below.refl _ _⟩
    case round =>
      obtain ⟨k, hk, rfl, hno, hB⟩ := hrel
      by_cases hlt : k < s.size
      · by_cases hl : Lib.indexByte lettersL s[k] < 0
        · go_wp2_with (go_at_call 80; refine (letterIdx _ _).mono ?_; rintro e w1 ⟨rfl, hB1⟩)
          go_ret
          exact Ret.int (wordE_not s k h16 hlt ((isLetter_neg _).1 hl)).symm (hB.trans (hB1.mono hB.size))
        · go_wp2_with (go_at_call 80; refine (letterIdx _ _).mono ?_; rintro e w1 ⟨rfl, hB1⟩)
          go_roundw
          case rel => exact ⟨k + 1, by omega, by go_num, wordE_step s k hlt hno.out ((isLetter_pos _).1 (by omega)), hB.trans (hB1.mono hB.size)⟩
          case measure => simp [intOf]; omega
      · go_wp2
        go_ret
        exact Ret.int (wordE_all s k h16 hlt hno.out).symm hB

theorem box_cell {w wr : World} {cs : Array Value} {t : TypeId} (hB : Below (w.heap.size + 1) (w.alloc (.cells cs t)) wr) (i : Nat) (v : Value) (h : cs[i]? = some v) : wr.cell? ⟨w.heap.size, i, none⟩ = some v := by
  rw [hB.cell (p := ⟨w.heap.size, i, none⟩) (by simp), World.cell?_alloc_new]; exact h
theorem box_below {w wr : World} {o : Obj} (hB : Below (w.heap.size + 1) (w.alloc o) wr) : Below w.heap.size w wr :=
  ((Below.refl _ _).alloc (Nat.le_refl _) _).trans (hB.mono (by simp))

theorem box_up {w wr : World} {o : Obj} (hB : Below (w.alloc o).heap.size (w.alloc o) wr) : Below (w.heap.size + 1) (w.alloc o) wr := by
  simpa using hB

theorem box_lt {w wr : World} {o : Obj} (hB : Below (w.heap.size + 1) (w.alloc o) wr) : w.heap.size < wr.heap.size := by
  have := hB.size
  simp at this
  omega

theorem sheetE_long {p : Int} {l : List Tri} (k : Nat) (hlt : k < l.length) (h : 16 < l[k].s.size) : sheetE p l = 3 := by
  have : l.any longW = true := any_at _ _ k hlt (by simp [longW, h])
  simp [sheetE, this]
theorem sheetE_pairs {p : Int} {l : List Tri} (h400 : ¬ 400 < l.length) (hL : l.any longW = false) (h : p < 2) : sheetE p l = 2 := by
  have e : ¬ 24 < p := by omega
  simp only [sheetE, e, h400, hL, h, if_true]; simp
theorem sheetE_bad {p : Int} {l : List Tri} (h24 : p ≤ 24) (h400 : ¬ 400 < l.length) (hL : l.any longW = false) (k : Nat) (hlt : k < l.length) (h : badW p l[k] = true) : sheetE p l = 2 := by
  have : l.any (badW p) = true := any_at _ _ k hlt h
  have e : ¬ 24 < p := by omega
  simp only [sheetE, e, h400, hL, this, if_true]; simp
theorem sheetE_wrong {p : Int} {l : List Tri} (h24 : p ≤ 24) (h400 : ¬ 400 < l.length) (hL : l.any longW = false) (h2 : 2 ≤ p) (hb : l.any (badW p) = false) (k : Nat) (hlt : k < l.length) (h : wordE l[k].s ≠ 0) : sheetE p l = 6 := by
  have : l.any wrongW = true := any_at _ _ k hlt (by simp [wrongW, h])
  have e : ¬ 24 < p := by omega
  have e2 : ¬ p < 2 := by omega
  simp only [sheetE, e, h400, hL, e2, hb, this, if_true]; simp
theorem sheetE_ok {p : Int} {l : List Tri} (h24 : p ≤ 24) (h400 : ¬ 400 < l.length) (hL : l.any longW = false) (h2 : 2 ≤ p) (hb : l.any (badW p) = false) (hw : l.any wrongW = false) : sheetE p l = 0 := by
  have e : ¬ 24 < p := by omega
  have e2 : ¬ p < 2 := by omega
  simp only [sheetE, e, h400, hL, e2, hb, hw]; simp

set_option maxHeartbeats 1000000 in
theorem sheetRef_any (p : Int) (A : Option Addr) (l : List Tri) (c : Nat) (w : World) (H : Nat) (hr : RdT w H A l) (hH : H ≤ w.heap.size) (hw : ∀ (k : Nat) (hk : k < l.length), l[k].s.size ≤ 9223372036854775807) (hl : l.length ≤ 9223372036854775807) :
    Calls Try.prog 17 #[.agg #[.int .i64 p, .slice A l.length c]] w (Ret (.int .i64 (sheetE p l)) w) := by
  by_cases h24 : 24 < p
  · go_enter Try.func17, Try.ntmps17
    go_wp2
    go_ret
    exact Ret.int (by simp [sheetE, h24]) ((Below.refl _ _).alloc (Nat.le_refl _) _)
  by_cases h400 : 400 < l.length
  · go_enter Try.func17, Try.ntmps17
    go_wp2
    go_ret
    exact Ret.int (by simp [sheetE, h400]) ((Below.refl _ _).alloc (Nat.le_refl _) _)
  have H24 := Lib.hid h24
  have H400 := Lib.hid h400
  go_enter Try.func17, Try.ntmps17
  go_wp2
  go_loopw [3] (fun i wr => ∃ k : Nat, k ≤ l.length ∧ i = .int .i64 k ∧ Hid ((l.take k).any longW = false) ∧ Below (w.heap.size + 1) (w.alloc (.cells #[.int .i64 p, .slice A l.length c] 24)) wr) (fun i _ => l.length - (intOf i).toNat)
  case atStart => exact ⟨0, Nat.zero_le _, rfl, by simp [Hid], Below.refl _ _⟩
  case round =>
    obtain ⟨k, hk, rfl, hno, hB⟩ := hrel
    have hN0 := box_cell hB 0 (.int .i64 p) rfl
    have hN1 := box_cell hB 1 (.slice A l.length c) rfl
    by_cases hlt : k < l.length
    · obtain ⟨b, o, rfl, hb0, h0, h1, h2⟩ := (hr.below' (box_below hB) hH).tri hlt
      by_cases h16 : 16 < l[k].s.size
      · have HE := Lib.hid (sheetE_long (p := p) k hlt h16)
        go_wp2
        go_ret
        exact Ret.int HE.out.symm (box_below hB)
      · go_wp2
        go_roundw
        case rel => exact ⟨k + 1, by omega, by go_num, any_snoc _ _ _ hlt hno.out (by simp [longW, h16]), hB⟩
        case measure => simp [intOf]; omega
    · have HL := Lib.hid (any_end _ _ _ hlt hno.out)
      by_cases h2 : p < 2
      · have HE := Lib.hid (sheetE_pairs H400.out HL.out h2)
        go_wp2
        go_ret
        exact Ret.int HE.out.symm (box_below hB)
      · have H2 := Lib.hid h2
        go_wp2
        clear hN0 hN1 hno
        obtain ⟨wo, rfl⟩ : ∃ wo : World, wo = wr := ⟨_, rfl⟩
        go_loopw [4] (fun i wr => ∃ k : Nat, k ≤ l.length ∧ i = .int .i64 k ∧ Hid ((l.take k).any (badW p) = false) ∧ Below (w.heap.size + 1) (w.alloc (.cells #[.int .i64 p, .slice A l.length c] 24)) wr) (fun i _ => l.length - (intOf i).toNat)
        case atStart => exact ⟨0, Nat.zero_le _, rfl, by simp [Hid], hB⟩
        case round =>
          obtain ⟨k', hk', rfl, hno, hC⟩ := hrel
          have hN0 := box_cell hC 0 (.int .i64 p) rfl
          have hN1 := box_cell hC 1 (.slice A l.length c) rfl
          have hNs := box_lt hC
          by_cases hlt' : k' < l.length
          · obtain ⟨b, o, rfl, hb0, h0, h1, h2⟩ := (hr.below' (box_below hC) hH).tri hlt'
            have hbb := lt_of_cell h0
            go_wp2
            all_goals first
              | (go_roundw
                 case rel => exact ⟨k' + 1, by omega, by go_num, any_snoc _ _ _ hlt' hno.out (by rw [badW_false]; (try simp only [bemp, decide_eq_true_eq, decide_eq_false_iff_not] at *); omega), hC.alloc (by omega) _⟩
                 case measure => simp [intOf]; omega)
              | (go_ret; exact Ret.int (sheetE_bad H24.out H400.out HL.out k' hlt' (by rw [badW_true]; (try simp only [bemp, decide_eq_true_eq, decide_eq_false_iff_not] at *); omega)).symm ((box_below hC).alloc (by omega) _))
          · have HB := Lib.hid (any_end _ _ _ hlt' hno.out)
            go_wp2
            clear hN0 hN1 hno
            obtain ⟨wo2, rfl⟩ : ∃ wo2 : World, wo2 = wr := ⟨_, rfl⟩
            go_loopw [6] (fun i wr => ∃ k : Nat, k ≤ l.length ∧ i = .int .i64 k ∧ Hid ((l.take k).any wrongW = false) ∧ Below (w.heap.size + 1) (w.alloc (.cells #[.int .i64 p, .slice A l.length c] 24)) wr) (fun i _ => l.length - (intOf i).toNat)
            case atStart => exact ⟨0, Nat.zero_le _, rfl, by simp [Hid], hC⟩
            case round =>
              obtain ⟨k2, hk2, rfl, hno, hD⟩ := hrel
              have hN0 := box_cell hD 0 (.int .i64 p) rfl
              have hN1 := box_cell hD 1 (.slice A l.length c) rfl
              have hNs := box_lt hD
              by_cases hlt2 : k2 < l.length
              · obtain ⟨b, o, rfl, hb0, h0, h1, h2⟩ := (hr.below' (box_below hD) hH).tri hlt2
                have hW := Lib.hid (hw k2 hlt2)
                by_cases hwe : wordE l[k2].s = 0
                · have hwe' : (wordE l[k2].s != 0) = false := by simp [hwe]
                  have HWE := Lib.hid hwe
                  clear hwe
                  go_wp2_with (go_at_call 55; refine (wordRef_any _ _ hW.out).mono ?_; rintro e w1 ⟨rfl, hB1⟩)
                  go_roundw
                  case rel => exact ⟨k2 + 1, by omega, by go_num, any_snoc _ _ _ hlt2 hno.out (by simp [wrongW, HWE.out]), hD.trans (hB1.mono (by omega))⟩
                  case measure => simp [intOf]; omega
                · have hwe' : (wordE l[k2].s != 0) = true := by simp [hwe]
                  have HWE := Lib.hid hwe
                  clear hwe
                  go_wp2_with (go_at_call 55; refine (wordRef_any _ _ hW.out).mono ?_; rintro e w1 ⟨rfl, hB1⟩)
                  go_ret
                  exact Ret.int (sheetE_wrong H24.out H400.out HL.out H2.out HB.out k2 hlt2 HWE.out).symm ((box_below hD).trans (hB1.mono (by omega)))
              · go_wp2
                go_ret
                exact Ret.int (sheetE_ok H24.out H400.out HL.out H2.out HB.out (any_end _ _ _ hlt2 hno.out)).symm (box_below hD)
end Go.Proofs.Ytogkgoabonbkkaa
