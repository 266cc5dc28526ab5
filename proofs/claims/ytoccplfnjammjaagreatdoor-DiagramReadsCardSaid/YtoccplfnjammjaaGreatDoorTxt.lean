/- Rows of texts. -/
import Derived.Test.YtoccplfnjammjaaGreatDoorNum
import Derived.Test.YtoccplfnjammjaaGreatDoorLinM
import Derived.Test.YtoccplfnjammjaaGreatDoorOldA3
set_option linter.unusedSimpArgs false
set_option linter.unusedVariables false
namespace Go.Proofs.YtoccplfnjammjaaGreatDoor
open Go Go.RowKit Tor

def tenc (x : List UInt8) : List Value := [.string (bN x)]
theorem tenc_len (x : List UInt8) : (tenc x).length = 1 := rfl
theorem tenc_one (x : List UInt8) : ∀ u ∈ tenc x, u.oneCell' = true := by
  intro u hu
  simp only [tenc, List.mem_cons, List.not_mem_nil, or_false] at hu
  rcases hu with rfl <;> rfl
theorem txt_flat (ls : List (List UInt8)) : (ls.map fun t => Value.string (bN t)) = ls.flatMap tenc := by
  induction ls with
  | nil => rfl
  | cons x r ih => rw [List.map_cons, List.flatMap_cons, ih]; rfl
theorem infoTxt : (Tryz.prog.info? 9).map (fun i => (i.zero, i.size, i.bytes)) = some (some (.string ByteArray.empty), 1, 16) := by kernel_rfl
/-- the lines that are returned, with an error -/
def LinRet (w : World) (l : List (List UInt8)) (n : Int) (e : Ending) (w' : World) : Prop := ∃ v, e = .returned (.tuple #[v, .int .i64 n]) ∧ Tor.Own 1 tenc w' w.heap.size 9 v l ∧ Below w.heap.size w w'
theorem wpList_append_txt {P : Program} {ops : Array Oper} {rest : List Oper} {o : Oper} {a : Act} {Q : Exit → Act → World → Prop} {w : World} (hgd : o.guard = none) (s x : Operand) (t : TypeId)
    (ho : o.op = .call { callee := .builtin .append, args := #[s, x], argTypes := #[t, t] })
    (base : Nat) (e : TypeId) (i : TypeInfo) (z : Value) (ht : P.underlying t = some (.slice e)) (hi : P.info? e = some i) (hz : i.zero = some z)
    (hsize : i.size = 1) (hby : i.bytes = 16) (hzs : z.cells.size = 1)
    (v : Value) (l : List (List UInt8)) (hs : a.eval s = v) (hown : Tor.Own 1 tenc w base e v l)
    (g : Nat) (y : List UInt8) (hx : a.eval x = .slice (some ⟨g, 0, none⟩) 1 1) (h0 : w.cell? ⟨g, 0, none⟩ = some (.string (bN y)))
    (hlen : l.length ≤ 4000000) (hbase : base ≤ w.heap.size)
    (h : ∀ v' w', Tor.Own 1 tenc w' base e v' (l ++ [y]) → w.grownBy w' v.ownBlock → wpList P ops Q rest (a.put o.dst v') w') : wpList P ops Q (o :: rest) a w := by
  refine wpList_append_own w hgd s x t ho base e i z 1 16 ht hi hz hsize hby hzs (by omega) v l.length (l.flatMap tenc) hs hown ⟨g, 0, none⟩ 1 1 (tenc y) hx rfl ?_ (tenc_one y) (by unfold maxLen; omega) (by omega) hbase
    (fun v' w' a b _ => h v' w' (Own.append1 rfl a) b)
  intro j u hu
  match j, hu with
  | 0, hu => simp [tenc] at hu; subst hu; exact h0
theorem rangeSl (L : List UInt8) (f j : Nat) (hfj : f ≤ j) (hj : j ≤ L.length) (hs : L.length ≤ 4000000) (y : List UInt8) (hy : (L.take j).drop f = y) (W : World) :
    (Instr.slice 9 (.string (bN L)) (some (.int .i64 (f : Int))) (some (.int .i64 (j : Int))) none).run Tryz.prog W = .ok (.string (bN y)) W := by
  have hz : (bN L).size = L.length := rfl
  have := run_slice_string (P := Tryz.prog) W 9 (bN L) .i64 .i64 (f : Int) (j : Int) Tryz.underlying9 (by omega) (by omega) (by rw [hz]; omega)
  have he : (bN L).extract f j = bN y := by
    refine ByteArray.ext (Array.ext' ?_)
    rw [ByteArray.data_extract]
    simp only [bN, Array.toList_extract, List.extract_eq_take_drop]
    rw [← hy, List.drop_take]
  rw [Int.toNat_natCast, Int.toNat_natCast, he] at this
  exact this
theorem _root_.Tor.Rd.txt {w : World} {B : Nat} {A : Option Addr} {l : List (List UInt8)} (h : Rd 1 tenc w B A l) {k : Nat} (hk : k < l.length) :
    ∃ b o, A = some ⟨b, o, none⟩ ∧ b < B ∧ w.cell? ⟨b, o + k, none⟩ = some (.string (bN l[k])) := by
  obtain ⟨b, o, e, hb, hc⟩ := h (by intro e; subst e; simp at hk)
  have hx : l[k]? = some l[k] := List.getElem?_eq_getElem hk
  exact ⟨b, o, e, hb, by have := hc k _ hx 0 _ rfl; simpa using this⟩
/-- a string that is read as a list of bytes -/
theorem bN_of (s : ByteArray) : s = bN s.data.toList := ByteArray.ext (Array.ext' rfl)
theorem bN_size (L : List UInt8) : (bN L).size = L.length := rfl
theorem bN_toList (L : List UInt8) : (bN L).toList = L := Lib.toList_data _
end Go.Proofs.YtoccplfnjammjaaGreatDoor
