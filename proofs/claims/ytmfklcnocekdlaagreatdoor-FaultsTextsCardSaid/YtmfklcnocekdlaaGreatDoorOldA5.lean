/- Plain theory and walks of small functions (OldA5). -/
import Derived.Test.YtmfklcnocekdlaaGreatDoorOldA4
import Derived.Test.YtmfklcnocekdlaaGreatDoorOldA3
import Derived.Test.YtmfklcnocekdlaaGreatDoorOldA1
set_option linter.unusedSimpArgs false
set_option linter.unusedVariables false
namespace Go.Proofs.YtmfklcnocekdlaaGreatDoor
open Go Go.RowKit Tor

theorem wpList_append_i {P : Program} {ops : Array Oper} {rest : List Oper} {o : Oper} {a : Act} {Q : Exit → Act → World → Prop} {w : World} (hgd : o.guard = none) (s x : Operand) (t : TypeId)
    (ho : o.op = .call { callee := .builtin .append, args := #[s, x], argTypes := #[t, t] })
    (base : Nat) (e : TypeId) (i : TypeInfo) (z : Value) (ht : P.underlying t = some (.slice e)) (hi : P.info? e = some i) (hz : i.zero = some z)
    (hsize : i.size = 1) (hby : i.bytes = 8) (hzs : z.cells.size = 1)
    (v : Value) (l : List Int) (hs : a.eval s = v) (hown : Own 1 ienc w base e v l)
    (g : Nat) (y : Int) (hx : a.eval x = .slice (some ⟨g, 0, none⟩) 1 1)
    (h0 : w.cell? ⟨g, 0, none⟩ = some (.int .i64 y))
    (hlen : l.length ≤ 1000000) (hbase : base ≤ w.heap.size)
    (h : ∀ v' w', Own 1 ienc w' base e v' (l ++ [y]) → w.grownBy w' v.ownBlock → wpList P ops Q rest (a.put o.dst v') w') : wpList P ops Q (o :: rest) a w := by
  refine wpList_append_own w hgd s x t ho base e i z 1 8 ht hi hz hsize hby hzs (by omega) v l.length (l.flatMap ienc) hs hown ⟨g, 0, none⟩ 1 1 (ienc y) hx rfl ?_ (int_one y) (by unfold maxLen; omega) (by omega) hbase
    (fun v' w' a b _ => h v' w' (Own.append1 rfl a) b)
  intro j u hu
  match j, hu with
  | 0, hu => simp [ienc] at hu; subst hu; simpa [Addr.add] using h0


end Go.Proofs.YtmfklcnocekdlaaGreatDoor

namespace Go.Proofs.YtmfklcnocekdlaaGreatDoor
open Go Go.RowKit Tor

end Go.Proofs.YtmfklcnocekdlaaGreatDoor

namespace Go.Proofs.YtmfklcnocekdlaaGreatDoor
open Go Go.RowKit Tor

end Go.Proofs.YtmfklcnocekdlaaGreatDoor

namespace Tor
open Go Go.RowKit

def Ex.here (w : World) : Ex w := ⟨w, Below.refl _ _⟩
theorem Ex.lt {w0 : World} (g : Ex w0) {b : Nat} (h : b < w0.heap.size) : b < g.w.heap.size := Nat.lt_of_lt_of_le h g.h.size
attribute [go_sem] Ex.lt
theorem Ex.le {w0 : World} (g : Ex w0) {b : Nat} (h : b ≤ w0.heap.size) : b ≤ g.w.heap.size := Nat.le_trans h g.h.size
theorem Ex.on {B : Nat} {w w0 : World} (h : Below B w w0) (hB : B ≤ w0.heap.size) (g : Ex w0) : Below B w g.w := h.trans (g.h.mono hB)
@[go_sem] theorem Ex.frozen {w0 : World} (g : Ex w0) (b o : Nat) (hb : b < w0.heap.size) : g.w.frozen? ⟨b, o, none⟩ = w0.frozen? ⟨b, o, none⟩ := g.h.frozen (p := ⟨b, o, none⟩) hb
end Tor

