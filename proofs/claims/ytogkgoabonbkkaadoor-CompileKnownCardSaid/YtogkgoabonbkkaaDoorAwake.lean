/- awake: the calls that every law of this layer asks. -/
import Derived.Test.YtogkgoabonbkkaaDoorBest
import Derived.Test.YtogkgoabonbkkaaDoorQuick3
set_option linter.unusedSimpArgs false
set_option linter.unusedVariables false
namespace Go.Proofs.YtogkgoabonbkkaaDoor
open Go Go.RowKit Tor

theorem wpList_append_i {P : Program} {ops : Array Oper} {rest : List Oper} {o : Oper} {a : Act} {Q : Exit → Act → World → Prop} {w : World} (hgd : o.guard = none) (s x : Operand) (t : TypeId)
    (ho : o.op = .call { callee := .builtin .append, args := #[s, x], argTypes := #[t, t] })
    (base : Nat) (e : TypeId) (i : TypeInfo) (z : Value) (ht : P.underlying t = some (.slice e)) (hi : P.info? e = some i) (hz : i.zero = some z)
    (hsize : i.size = 1) (hby : i.bytes = 8) (hzs : z.cells.size = 1)
    (v : Value) (l : List Int) (hs : a.eval s = v) (hown : Own 1 ienc w base e v l)
    (g : Nat) (y : Int) (hx : a.eval x = .slice (some ⟨g, 0, none⟩) 1 1)
    (h0 : w.cell? ⟨g, 0, none⟩ = some (.int .i64 y))
    (hlen : l.length ≤ 1000000) (hbase : base ≤ w.heap.size)
    (h : ∀ v' w', Own 1 ienc w' base e v' (l ++ [y]) → w.grownBy w' v.ownBlock → wpList P ops Q rest (a.put o.dst v') w') : wpList P ops Q (o :: rest) a w := by
  refine wpList_append_own w hgd s x t ho base e i z 1 8 ht hi hz hsize hby hzs (by omega) v l.length (l.flatMap ienc) hs hown ⟨g, 0, none⟩ 1 1 (ienc y) hx rfl ?_ (int_one y) (by unfold maxLen; omega) (by omega) hbase
    (fun v' w' a b _ => h v' w' (Own.append1 rfl a) b)
  intro j u hu
  match j, hu with
  | 0, hu => simp [ienc] at hu; subst hu; simpa [Addr.add] using h0


/-- the places of the reaches -/
def placesOf (l : List Tri) : List Int := (l.filter fun x => decide (x.a = 1)).map (·.b)
theorem placesOf_snoc (l : List Tri) (k : Nat) (h : k < l.length) : placesOf (l.take (k + 1)) = placesOf (l.take k) ++ (if l[k].a = 1 then [l[k].b] else []) := by
  rw [take_snoc l k h]
  unfold placesOf
  rw [List.filter_append, List.map_append]
  by_cases e : l[k].a = 1 <;> simp [e]
theorem placesOf_len (l : List Tri) (k : Nat) : (placesOf (l.take k)).length ≤ k := by
  unfold placesOf
  rw [List.length_map]
  exact Nat.le_trans (List.length_filter_le _ _) (List.length_take_le _ _)

theorem places_any (A : Option Addr) (l : List Tri) (c : Nat) (w : World) (H : Nat) (hl : l.length ≤ 100000) (ha : RdT w H A l) (hH : H ≤ w.heap.size) :
    Calls Tryd.prog 10 #[.slice A l.length c] w fun e w' => ∃ v, e = .returned v ∧ Own 1 ienc w' w.heap.size 3 v (placesOf l) ∧ Below w.heap.size w w' := by
  obtain ⟨i0, hi0, hz0', hz1', hz2'⟩ := info_parts infoInt
  go_enter Tryd.func10, Tryd.ntmps10
  go_wp2_with fail
  go_loopw [3, 4] (fun v i wr => ∃ k : Nat, k ≤ l.length ∧ i = .int .i64 k ∧ Own 1 ienc wr w.heap.size 3 v (placesOf (l.take k)) ∧ Below w.heap.size w wr) (fun _ i _ => l.length - (intOf i).toNat)
  case atStart => exact ⟨0, Nat.zero_le _, rfl, Own.nil _ _ _, Below.refl _ _⟩
  case round =>
    obtain ⟨k, hk, rfl, hown, hB⟩ := hrel
    have hle := placesOf_len l k
    have hz := hB.size
    by_cases hlt : k < l.length
    · have HS := Lib.hid (placesOf_snoc l k hlt)
      obtain ⟨b, o, rfl, hb0, h0, h1, h2⟩ := (ha.below' hB hH).tri hlt
      by_cases h1' : l[k].a = 1
      · have e : (l[k].a == 1) = true := by simp [h1']
        have HE := Lib.hid h1'
        clear h1'
        go_wp2_with (first
          | (at_builtin; refine wpList_append_i rfl (.tmp 17) (.tmp 23) _ rfl w.heap.size _ i0 _ Tryd.underlying37 hi0 hz0' hz1' hz2' rfl _ (placesOf (l.take k)) rfl (hown.alloc _) wr.heap.size l[k].b rfl (cell_new rfl) (by omega) (by simp; omega) ?_; intro v' w4 hown4 hg4))
        go_roundw
        case rel => exact ⟨k + 1, by omega, by go_num, by rw [HS.out, if_pos HE.out]; exact hown4, (hown.alloc _).grown (hB.alloc hz _) hg4 (by simp; omega)⟩
        case measure => simp [intOf]; omega
      · have e : (l[k].a == 1) = false := by simp [h1']
        have HE := Lib.hid h1'
        clear h1'
        go_wp2_with fail
        go_roundw
        case rel => exact ⟨k + 1, by omega, by go_num, by rw [HS.out, if_neg HE.out, List.append_nil]; exact hown, hB⟩
        case measure => simp [intOf]; omega
    · go_wp2_with fail
      go_ret
      exact ⟨_, rfl, by rw [take_all l k hlt] at hown; exact hown, hB⟩

theorem sameInts_any (A B : Option Addr) (l m : List Int) (c d : Nat) (w : World) (H : Nat) (hl : l.length ≤ 100000) (hm : m.length ≤ 100000) (ha : RdI w H A l) (hb : RdI w H B m) (hH : H ≤ w.heap.size) :
    Calls Tryd.prog 9 #[.slice A l.length c, .slice B m.length d] w (Ret (.bool (decide (l = m))) w) := by
  go_enter Tryd.func9, Tryd.ntmps9
  by_cases hnm : l.length = m.length
  · have hnm' : ((l.length : Int) != (m.length : Int)) = false := by simp [hnm]
    have H0 := Lib.hid hnm
    clear hnm
    go_wp2_with fail
    go_loopw [5] (fun i wr => ∃ k : Nat, k ≤ l.length ∧ i = .int .i64 k ∧ Hid (l.take k = m.take k) ∧ Below w.heap.size w wr) (fun i _ => l.length - (intOf i).toNat)
    case atStart => exact ⟨0, Nat.zero_le _, rfl, by simp [Hid], Below.refl _ _⟩
    case round =>
      obtain ⟨k, hk, rfl, ht, hB⟩ := hrel
      by_cases hlt : k < l.length
      · obtain ⟨b, o, rfl, hb0, h0⟩ := (ha.below' hB hH).int hlt
        have hlt' : k < m.length := by rw [← H0.out]; exact hlt
        obtain ⟨b', o', rfl, hb0', g0⟩ := (hb.below' hB hH).int hlt'
        have l1 := lt_of_cell h0
        have l2 := lt_of_cell g0
        have k0 : (0 : Int) ≤ (k : Int) := by omega
        have k1 : (k : Int) < (l.length : Int) := by omega
        have k2 : (k : Int) < (m.length : Int) := by omega
        by_cases he : l[k] = m[k]
        · have he' : (l[k] != m[k]) = false := by simp [he]
          have HE := Lib.hid he
          clear he
          go_wp2_with fail
          go_quiet (fail)
          go_wp2_with fail
          go_roundw
          case rel => exact ⟨k + 1, by omega, by go_num, take_eq_snoc hlt hlt' HE.out ht.out, hB.drewN nq⟩
          case measure => simp [intOf]; omega
        · have he' : (l[k] != m[k]) = true := by simp [he]
          have HE := Lib.hid he
          clear he
          go_wp2_with fail
          go_quiet (fail)
          go_wp2_with fail
          go_ret
          exact Ret.bool (by have := take_ne hlt hlt' HE.out; simp [this]) (hB.drewN nq)
      · go_wp2_with fail
        go_ret
        exact Ret.bool (by have := take_eq_all hlt H0.out ht.out; simp [this]) hB
  · have hnm' : ((l.length : Int) != (m.length : Int)) = true := by simp; omega
    go_wp2_with fail
    go_ret
    refine ⟨ret_bool ?_, Below.refl _ _⟩
    have : l ≠ m := fun e => hnm (by rw [e])
    simp [this]

def exW : ByteArray := ⟨#[67, 84]⟩

/-- the sheet of the examples -/
def exL : List Tri := [⟨1, 0, exW⟩, ⟨1, 3, exW⟩, ⟨1, 0, exW⟩, ⟨1, 3, exW⟩]

theorem ex_steps : placesOf (rst 5 2 exL (-1)) = [0, 3, 0, 3] := by decide
theorem ex_best : placesOf (rst ((5 : Nat) : Int) ((2 : Nat) : Int) ((bsel ((5 : Nat) : Int) ((2 : Nat) : Int) exL (bfL exL) 4 0 1 0).map (xAt exL)) (-1)) = [0, 3] := by decide
theorem ex_best6 : (rst ((5 : Nat) : Int) ((2 : Nat) : Int) ((bsel ((5 : Nat) : Int) ((2 : Nat) : Int) exL (bfL exL) 4 0 1 0).map (xAt exL)) (-1)).length = 6 := by decide
theorem ex_quick : placesOf (qloop exL 5 5 2000 4 []) = [0] := by decide
theorem ex_chk2 : chkE 5 exL 2 = 0 := by decide
theorem ex_chk5 : chkE 5 exL 5 = 0 := by decide
theorem ex_sheet : sheetE 5 exL = 0 := by decide
end Go.Proofs.YtogkgoabonbkkaaDoor
