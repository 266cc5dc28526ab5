/- index, IndexByte; Check of words (program and reference). -/
import Derived.Test.YtogkgoabonbkkaaDoorSmall
import Derived.Test.YtogkgoabonbkkaaDoorPlain
set_option linter.unusedSimpArgs false
set_option linter.unusedVariables false
namespace Go.Proofs.YtogkgoabonbkkaaDoor
open Go Go.RowKit Tor

theorem ibs (s : ByteArray) (c : Int) (w : World) : (callFunc 58 #[.string s, .int .u8 c]).run Tryd.prog w = .ok (.value (.int .i64 (Lib.indexByte s.data.toList c.toNat.toUInt8))) w := by
  rw [run_callFunc_extern (e := Extern.BytealgIndexByte.indexByte) Tryd.func58 (by kernel_rfl) (by kernel_rfl) (by kernel_rfl) (by kernel_rfl), Lib.run_indexByteString]
  rfl

theorem indexByte_any (s : ByteArray) (c : UInt8) (w : World) :
    Calls Tryd.prog 34 #[.string s, .int .u8 c.toNat] w (Ret (.int .i64 (Lib.indexByte s.data.toList c)) w) := by
  have h := ibs s c.toNat
  have e : ((c.toNat : Int)).toNat.toUInt8 = c := by simp
  rw [e] at h
  go_enter Tryd.func34, Tryd.ntmps34
  go_wp2_with go_in
  go_ret
  exact Ret.int rfl (Below.refl _ _)


theorem letterIdx (c : UInt8) (w : World) :
    Calls Tryd.prog 34 #[.string ⟨#[67, 84, 76, 82, 80, 99, 116, 108, 114]⟩, .int .u8 c.toNat] w (Ret (.int .i64 (Lib.indexByte lettersL c)) w) := indexByte_any letters c w

theorem wordE_all (s : ByteArray) (k : Nat) (h16 : ¬ 16 < s.size) (hlt : ¬ k < s.size) (hno : (s.data.toList.take k).all isLetter = true) : wordE s = 0 := by
  rw [take_all _ _ (by rw [bsize]; exact hlt)] at hno
  simp [wordE, h16, hno]
theorem wordE_not (s : ByteArray) (k : Nat) (h16 : ¬ 16 < s.size) (hlt : k < s.size) (h2 : isLetter s[k] = false) : wordE s = 6 := by
  have := all_not s.data.toList k (by rw [bsize]; exact hlt) (by rw [bgetL s k hlt]; exact h2)
  simp [wordE, h16, this]
theorem wordE_step (s : ByteArray) (k : Nat) (hlt : k < s.size) (hno : (s.data.toList.take k).all isLetter = true) (h2 : isLetter s[k] = true) : (s.data.toList.take (k + 1)).all isLetter = true :=
  all_snoc _ k (by rw [bsize]; exact hlt) hno (by rw [bgetL s k hlt]; exact h2)

theorem word_any (s : ByteArray) (w : World) (hs : s.size ≤ 9223372036854775807) :
    Calls Tryd.prog 21 #[.string s] w (Ret (.int .i64 (wordE s)) w) := by
  by_cases h16 : 16 < s.size
  · go_enter Tryd.func21, Tryd.ntmps21
    go_wp2
    go_ret
    exact Ret.int (by simp [wordE, h16]) (Below.refl _ _)
  · go_enter Tryd.func21, Tryd.ntmps21
    go_wp2
    go_loopw [9] (fun i wr => ∃ k : Nat, k ≤ s.size ∧ i = .int .i64 k ∧ Hid ((s.data.toList.take k).all isLetter = true) ∧ Below w.heap.size w wr) (fun i _ => s.size - (intOf i).toNat)
    case atStart => exact ⟨0, Nat.zero_le _, rfl, by simp [Hid], Below.refl _ _⟩
    case round =>
      obtain ⟨k, hk, rfl, hno, hB⟩ := hrel
      by_cases hlt : k < s.size
      · by_cases hl : Lib.indexByte lettersL s[k] < 0
        · go_wp2_with (go_at_call 34; refine (letterIdx _ _).mono ?_; rintro e w1 ⟨rfl, hB1⟩)
          go_ret
          exact Ret.int (wordE_not s k h16 hlt ((isLetter_neg _).1 hl)).symm (hB.trans (hB1.mono hB.size))
        · go_wp2_with (go_at_call 34; refine (letterIdx _ _).mono ?_; rintro e w1 ⟨rfl, hB1⟩)
          go_roundw
          case rel => exact ⟨k + 1, by omega, by go_num, wordE_step s k hlt hno.out ((isLetter_pos _).1 (by omega)), hB.trans (hB1.mono hB.size)⟩
          case measure => simp [intOf]; omega
      · go_wp2
        go_ret
        exact Ret.int (wordE_all s k h16 hlt hno.out).symm hB

theorem box_cell {w wr : World} {cs : Array Value} {t : TypeId} (hB : Below (w.heap.size + 1) (w.alloc (.cells cs t)) wr) (i : Nat) (v : Value) (h : cs[i]? = some v) : wr.cell? ⟨w.heap.size, i, none⟩ = some v := by
  rw [hB.cell (p := ⟨w.heap.size, i, none⟩) (by simp), World.cell?_alloc_new]; exact h
theorem box_below {w wr : World} {o : Obj} (hB : Below (w.heap.size + 1) (w.alloc o) wr) : Below w.heap.size w wr :=
  ((Below.refl _ _).alloc (Nat.le_refl _) _).trans (hB.mono (by simp))

theorem box_up {w wr : World} {o : Obj} (hB : Below (w.alloc o).heap.size (w.alloc o) wr) : Below (w.heap.size + 1) (w.alloc o) wr := by
  simpa using hB

theorem box_lt {w wr : World} {o : Obj} (hB : Below (w.heap.size + 1) (w.alloc o) wr) : w.heap.size < wr.heap.size := by
  have := hB.size
  simp at this
  omega

theorem sheetE_long {p : Int} {l : List Tri} (k : Nat) (hlt : k < l.length) (h : 16 < l[k].s.size) : sheetE p l = 3 := by
  have : l.any longW = true := any_at _ _ k hlt (by simp [longW, h])
  simp [sheetE, this]
theorem sheetE_pairs {p : Int} {l : List Tri} (h400 : ¬ 400 < l.length) (hL : l.any longW = false) (h : p < 2) : sheetE p l = 2 := by
  have e : ¬ 24 < p := by omega
  simp only [sheetE, e, h400, hL, h, if_true]; simp
theorem sheetE_bad {p : Int} {l : List Tri} (h24 : p ≤ 24) (h400 : ¬ 400 < l.length) (hL : l.any longW = false) (k : Nat) (hlt : k < l.length) (h : badW p l[k] = true) : sheetE p l = 2 := by
  have : l.any (badW p) = true := any_at _ _ k hlt h
  have e : ¬ 24 < p := by omega
  simp only [sheetE, e, h400, hL, this, if_true]; simp
theorem sheetE_wrong {p : Int} {l : List Tri} (h24 : p ≤ 24) (h400 : ¬ 400 < l.length) (hL : l.any longW = false) (h2 : 2 ≤ p) (hb : l.any (badW p) = false) (k : Nat) (hlt : k < l.length) (h : wordE l[k].s ≠ 0) : sheetE p l = 6 := by
  have : l.any wrongW = true := any_at _ _ k hlt (by simp [wrongW, h])
  have e : ¬ 24 < p := by omega
  have e2 : ¬ p < 2 := by omega
  simp only [sheetE, e, h400, hL, e2, hb, this, if_true]; simp
theorem sheetE_ok {p : Int} {l : List Tri} (h24 : p ≤ 24) (h400 : ¬ 400 < l.length) (hL : l.any longW = false) (h2 : 2 ≤ p) (hb : l.any (badW p) = false) (hw : l.any wrongW = false) : sheetE p l = 0 := by
  have e : ¬ 24 < p := by omega
  have e2 : ¬ p < 2 := by omega
  simp only [sheetE, e, h400, hL, e2, hb, hw]; simp


end Go.Proofs.YtogkgoabonbkkaaDoor
