/- diagram.Draw: steps of its inner loop. -/
import Derived.Test.YtoccplfnjammjaaGreatDoorDDraw
import Derived.Lib.OthersKept
set_option linter.unusedSimpArgs false
set_option linter.unusedVariables false
namespace Go.Proofs.YtoccplfnjammjaaGreatDoor
open Go Go.RowKit Tor Go.Maps

theorem addr0 (g j : Nat) : (⟨g, 0, none⟩ : Addr).add j = ⟨g, j, none⟩ := by unfold Addr.add; split <;> simp_all
theorem MapL.get {L : List (List UInt8)} {w : World} {mb n : Nat} (h : MapL L w mb n) (x : List UInt8) (hx : x.length ≤ maxLen) (hh : hasB L x = true) :
    (Instr.lookup 81 (.map (some mb)) (.string (bN x)) false).run Tryz.prog w = .ok (.int .u8 ((letN (idxB L x)).toNat : Int)) w := by
  obtain ⟨D, h1, h2⟩ := h
  obtain ⟨c, hr, hc, _⟩ := h1.lookup_int keyed_str Tryz.underlying81 Tryz.underlying5 (zeroByte _) (key_str x hx)
  rw [(h2 x).2 hh] at hc
  have : c = ((letN (idxB L x)).toNat : Int) := by simpa using hc.symm
  rw [this] at hr
  exact hr
theorem step_copy3 {ops : Array Oper} {o : Oper} {a : Act} {W : World} {K : Act → World → Prop} {Q : Exit → Act → World → Prop} {E : Prop} (hgd : o.guard = none) (d s : Operand)
    (ho : o.op = .call { callee := .builtin .copy, args := #[d, s], argTypes := #[85, 85] }) (base gt n c t gs : Nat) (L : List UInt8) (x : UInt8)
    (hd : a.eval d = .slice (some ⟨gt, t, none⟩) 3 3) (hs : a.eval s = .slice (some ⟨gs, 0, none⟩) 3 3)
    (hown : Own 1 uenc W base 5 (.slice (some ⟨gt, 0, none⟩) n c) L) (ha : t + 3 ≤ n) (hne : gs ≠ gt)
    (s0 : W.cell? ⟨gs, 0, none⟩ = some (.int .u8 40)) (s1 : W.cell? ⟨gs, 1, none⟩ = some (.int .u8 (x.toNat : Int))) (s2 : W.cell? ⟨gs, 2, none⟩ = some (.int .u8 41))
    (h : ∀ W', Own 1 uenc W' base 5 (.slice (some ⟨gt, 0, none⟩) n c) (over3 L t x) → W.grownBy W' (some gt) → K (a.put o.dst (goInt 3)) W') :
    if Region.wanted o (yielded ops a.tmps) = true then Oper.wp Tryz.prog o a W K Q else E := by
  have hw : Region.wanted o (yielded ops a.tmps) = true := by simp [Region.wanted, hgd]
  rw [if_pos hw]
  obtain ⟨W', hrun, h1, h2⟩ := copy3 W base gt n c t gs 3 L x o.type hown ha hne s0 s1 s2
  unfold Oper.wp
  simp [execOp, ho, resolve, invoke, builtin, hd, hs, hrun, Result.andThen]
  exact h _ h1 h2
theorem cutB_all (W : World) (g n c k : Nat) (hk : k ≤ c) (h0 : 0 < k) : (Instr.slice 85 (.slice (some ⟨g, 0, none⟩) n c) none (some (.int .i64 (k : Int))) (some (.int .i64 (k : Int)))).run Tryz.prog W = .ok (.slice (some ⟨g, 0, none⟩) k k) W := by
  have ht' : Tryz.prog.underlying 85 = some (.slice (Tryz.prog.elem 85)) := by rw [Program.elem, Tryz.underlying85]
  have he : Tryz.prog.elem 85 = 5 := by rw [Program.elem, Tryz.underlying85]
  rw [run_slice_hm W 85 _ _ _ ht' .i64 .i64 _ _ (by omega) (by omega) (by omega), he, Tryz.sizeOf5]
  have hne : ¬ k = 0 := by omega
  simp [Result.andThen, sliced, Addr.add, hne]
theorem cutB_three (W : World) (g n c t : Nat) (hk : t + 3 ≤ c) : (Instr.slice 85 (.slice (some ⟨g, 0, none⟩) n c) (some (.int .i64 (t : Int))) (some (.int .i64 ((t : Int) + 3))) (some (.int .i64 ((t : Int) + 3)))).run Tryz.prog W = .ok (.slice (some ⟨g, t, none⟩) 3 3) W := by
  have ht' : Tryz.prog.underlying 85 = some (.slice (Tryz.prog.elem 85)) := by rw [Program.elem, Tryz.underlying85]
  have he : Tryz.prog.elem 85 = 5 := by rw [Program.elem, Tryz.underlying85]
  rw [run_slice_lhm W 85 _ _ _ ht' .i64 .i64 .i64 _ _ _ (by omega) (by omega) (by omega) (by omega), he, Tryz.sizeOf5]
  have e3 : ((t : Int) + 3).toNat = t + 3 := by omega
  have hne : ¬ (t + 3 = t) := by omega
  rw [e3, Int.toNat_natCast]
  simp only [Result.andThen, sliced, hne, if_false, Option.map_some, Nat.mul_one]
  have e4 := addr0 g t
  rw [e4, Nat.add_sub_cancel_left]
/-- the bytes that a string is made of, as a new row -/
theorem bytes_cell (S : List UInt8) (cap : Nat) {j : Nat} {x : UInt8} (h : S[j]? = some x) : (bytesRow (bN S) cap)[j]? = some (.int .u8 (x.toNat : Int)) := by
  unfold bytesRow
  have hj : j < S.length := (List.getElem?_eq_some_iff.1 h).1
  rw [Array.getElem?_append_left (by simp [bN]; exact hj)]
  simp [bN, h]
theorem bytes_size (S : List UInt8) (cap : Nat) (hc : S.length ≤ cap) : (bytesRow (bN S) cap).size = cap := by
  unfold bytesRow
  have e : (bN S).size = S.length := rfl
  have e2 : (bN S).data.size = S.length := rfl
  rw [Array.size_append, Array.size_map, Array.size_replicate, e2, e]
  omega
theorem back_run (W : World) (base gt n c : Nat) (L : List UInt8) (h : Own 1 uenc W base 5 (.slice (some ⟨gt, 0, none⟩) n c) L) : (convert 85 9 (.slice (some ⟨gt, 0, none⟩) n c)).run Tryz.prog W = .ok (.string (bN L)) W := by
  obtain ⟨hn, _⟩ := uown_cells h
  have hc : ∀ j (hj : j < L.length), W.cell? ((⟨gt, 0, none⟩ : Addr).add j) = some (.int .u8 (L[j].toNat : Int)) := fun j hj => by
    have e := addr0 gt j
    rw [e]
    exact uown_cell h (List.getElem?_eq_getElem hj)
  have := run_convert_bytes_back (P := Tryz.prog) W 85 9 5 ⟨gt, 0, none⟩ c L Tryz.underlying85 Tryz.underlying5 Tryz.underlying9 hc
  rw [hn]
  exact this
theorem rowS_take_notin {p : Nat} {l : List Tri} {r : List Nat} (hr : r ∈ rowsS p l) (i : Nat) (hi : i < r.length) : r[i] ∉ r.take i := by
  obtain ⟨n, _, rfl⟩ := List.mem_map.1 hr
  have hn := rowS_nodup p l l.length n
  intro h
  obtain ⟨j, hj, e⟩ := List.getElem_of_mem h
  rw [List.length_take] at hj
  rw [List.getElem_take] at e
  have h2 := List.pairwise_iff_getElem.1 hn j i (by omega) hi (by omega)
  exact h2 e
theorem row_apart_take {p : Nat} {l : List Tri} {r : List Nat} (hr : r ∈ rowsS p l) (i : Nat) : Apart l (r.take i) := by
  obtain ⟨n, _, rfl⟩ := List.mem_map.1 hr
  intro a ha b hb
  exact rowS_apart p l l.length n a (List.mem_of_mem_take ha) b (List.mem_of_mem_take hb)
theorem look_in {p : Nat} {l : List Tri} {r : List Nat} (hr : r ∈ rowsS p l) {i : Nat} (hi : i ∈ r) : hasB (looksL (sheetD p l)) (lookB (xAt l i)) = true := by
  refine hasB_iff.2 ((looksF_mem (sheetD p l) [] _).2 (.inr ⟨xAt l i, ?_, rfl⟩))
  unfold sheetD pickL
  exact List.mem_flatMap.2 ⟨r, hr, List.mem_map.2 ⟨i, hi, rfl⟩⟩
theorem isB_kept {w w' : World} {T : List UInt8} {B b : Nat} (h : IsB B b (Lib.byteCells T) w) (hB : Below w.heap.size w w') : IsB B b (Lib.byteCells T) w' := h.below hB
end Go.Proofs.YtoccplfnjammjaaGreatDoor
