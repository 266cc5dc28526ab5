/- Plain theory and walks of small functions (OldA5). -/
import Derived.Test.YtfnklchhhojimaaOldA4
import Derived.Test.YtfnklchhhojimaaOldA3
import Derived.Test.YtfnklchhhojimaaOldA1
set_option linter.unusedSimpArgs false
set_option linter.unusedVariables false
namespace Go.Proofs.Ytfnklchhhojimaa
open Go Go.RowKit Tor

theorem wpList_append_i {P : Program} {ops : Array Oper} {rest : List Oper} {o : Oper} {a : Act} {Q : Exit → Act → World → Prop} {w : World} (hgd : o.guard = none) (s x : Operand) (t : TypeId)
    (ho : o.op = .call { callee := .builtin .append, args := #[s, x], argTypes := #[t, t] })
    (base : Nat) (e : TypeId) (i : TypeInfo) (z : Value) (ht : P.underlying t = some (.slice e)) (hi : P.info? e = some i) (hz : i.zero = some z)
    (hsize : i.size = 1) (hby : i.bytes = 8) (hzs : z.cells.size = 1)
    (v : Value) (l : List Int) (hs : a.eval s = v) (hown : Own 1 ienc w base e v l)
    (g : Nat) (y : Int) (hx : a.eval x = .slice (some ⟨g, 0, none⟩) 1 1)
    (h0 : w.cell? ⟨g, 0, none⟩ = some (.int .i64 y))
    (hlen : l.length ≤ 1000000) (hbase : base ≤ w.heap.size)
    (h : ∀ v' w', Own 1 ienc w' base e v' (l ++ [y]) → w.grownBy w' v.ownBlock → wpList P ops Q rest (a.put o.dst v') w') : wpList P ops Q (o :: rest) a w := by
  refine wpList_append_own w hgd s x t ho base e i z 1 8 ht hi hz hsize hby hzs (by omega) v l.length (l.flatMap ienc) hs hown ⟨g, 0, none⟩ 1 1 (ienc y) hx rfl ?_ (int_one y) (by unfold maxLen; omega) (by omega) hbase
    (fun v' w' a b _ => h v' w' (Own.append1 rfl a) b)
  intro j u hu
  match j, hu with
  | 0, hu => simp [ienc] at hu; subst hu; simpa [Addr.add] using h0


/-- the places of the reaches -/
def placesOf (l : List Tri) : List Int := (l.filter fun x => decide (x.a = 1)).map (·.b)
theorem placesOf_snoc (l : List Tri) (k : Nat) (h : k < l.length) : placesOf (l.take (k + 1)) = placesOf (l.take k) ++ (if l[k].a = 1 then [l[k].b] else []) := by
  rw [take_snoc l k h]
  unfold placesOf
  rw [List.filter_append, List.map_append]
  by_cases e : l[k].a = 1 <;> simp [e]
theorem placesOf_len (l : List Tri) (k : Nat) : (placesOf (l.take k)).length ≤ k := by
  unfold placesOf
  rw [List.length_map]
  exact Nat.le_trans (List.length_filter_le _ _) (List.length_take_le _ _)

def exW : ByteArray := ⟨#[67, 84]⟩

/-- the sheet of the examples -/
def exL : List Tri := [⟨1, 0, exW⟩, ⟨1, 3, exW⟩, ⟨1, 0, exW⟩, ⟨1, 3, exW⟩]

theorem ex_steps : placesOf (rst 5 2 exL (-1)) = [0, 3, 0, 3] := by decide
theorem ex_best : placesOf (rst ((5 : Nat) : Int) ((2 : Nat) : Int) ((bsel ((5 : Nat) : Int) ((2 : Nat) : Int) exL (bfL exL) 4 0 1 0).map (xAt exL)) (-1)) = [0, 3] := by decide
theorem ex_best6 : (rst ((5 : Nat) : Int) ((2 : Nat) : Int) ((bsel ((5 : Nat) : Int) ((2 : Nat) : Int) exL (bfL exL) 4 0 1 0).map (xAt exL)) (-1)).length = 6 := by decide
theorem ex_quick : placesOf (qloop exL 5 5 2000 4 []) = [0] := by decide
theorem ex_chk2 : chkE 5 exL 2 = 0 := by decide
theorem ex_chk5 : chkE 5 exL 5 = 0 := by decide
theorem ex_sheet : sheetE 5 exL = 0 := by decide
end Go.Proofs.Ytfnklchhhojimaa

namespace Go.Proofs.Ytfnklchhhojimaa
open Go Go.RowKit Tor

/-- the sheet of the examples in memory -/
def ExPost (w : World) (e : Ending) (w' : World) : Prop := ∃ g, e = .returned (.agg #[.int .i64 5, .slice (some ⟨g, 0, none⟩) exL.length 4]) ∧ RdT w' w'.heap.size (some ⟨g, 0, none⟩) exL ∧ Below w.heap.size w w'

theorem rdT_of_blk {w : World} {g : Nat} {t : TypeId} (h : Blk w g t #[.int .i64 1, .int .i64 0, .string exW, .int .i64 1, .int .i64 3, .string exW, .int .i64 1, .int .i64 0, .string exW, .int .i64 1, .int .i64 3, .string exW]) : RdT w w.heap.size (some ⟨g, 0, none⟩) exL := fun _ =>
  ⟨g, 0, rfl, h.lt, fun k x hx j u hu => by
    unfold exL at hx
    match k, hx with
    | 0, hx => simp at hx; subst hx; match j, hu with
      | 0, hu => simp [Tri.enc] at hu; subst hu; exact h.cell 0 _ rfl
      | 1, hu => simp [Tri.enc] at hu; subst hu; exact h.cell 1 _ rfl
      | 2, hu => simp [Tri.enc] at hu; subst hu; exact h.cell 2 _ rfl
    | 1, hx => simp at hx; subst hx; match j, hu with
      | 0, hu => simp [Tri.enc] at hu; subst hu; exact h.cell 3 _ rfl
      | 1, hu => simp [Tri.enc] at hu; subst hu; exact h.cell 4 _ rfl
      | 2, hu => simp [Tri.enc] at hu; subst hu; exact h.cell 5 _ rfl
    | 2, hx => simp at hx; subst hx; match j, hu with
      | 0, hu => simp [Tri.enc] at hu; subst hu; exact h.cell 6 _ rfl
      | 1, hu => simp [Tri.enc] at hu; subst hu; exact h.cell 7 _ rfl
      | 2, hu => simp [Tri.enc] at hu; subst hu; exact h.cell 8 _ rfl
    | 3, hx => simp at hx; subst hx; match j, hu with
      | 0, hu => simp [Tri.enc] at hu; subst hu; exact h.cell 9 _ rfl
      | 1, hu => simp [Tri.enc] at hu; subst hu; exact h.cell 10 _ rfl
      | 2, hu => simp [Tri.enc] at hu; subst hu; exact h.cell 11 _ rfl⟩

theorem ex_words : ∀ (k : Nat) (hk : k < exL.length), exL[k].s.size ≤ 9223372036854775807 := by decide
theorem ex_bounds : ∀ (k : Nat) (hk : k < exL.length), 0 ≤ exL[k].b ∧ exL[k].b ≤ 5 - 2 := by decide

theorem ints_new {w : World} {g : Nat} {t : TypeId} : ∀ {l : List Int}, Blk w g t (l.map (Value.int .i64)).toArray → RdI w w.heap.size (some ⟨g, 0, none⟩) l := fun {l} h _ =>
  ⟨g, 0, rfl, h.lt, fun k x hx j u hu => by
    match j, hu with
    | 0, hu =>
      simp [ienc] at hu
      subst hu
      exact (by simpa using h.cell (0 + k * 1 + 0) (.int .i64 x) (by simp [hx]))⟩

theorem rdI_alloc {w : World} {A : Option Addr} {l : List Int} (h : RdI w w.heap.size A l) (o : Obj) : RdI (w.alloc o) (w.alloc o).heap.size A l := (h.below ((Below.refl _ _).alloc (Nat.le_refl _) _)).more (by simp)


end Go.Proofs.Ytfnklchhhojimaa

namespace Go.Proofs.Ytfnklchhhojimaa
open Go Go.RowKit Tor

/-- is it more than is looked at? -/
def farB (n : Nat) (m : Int) : Bool := (decide (m < (n : Int)) && decide (n ≤ 400)) || decide (450 < n)


/-- a sheet that is checked -/
structure Good (p : Int) (l : List Tri) (s : Int) : Prop where
  b1 : 2 ≤ s
  b2 : s ≤ p
  b3 : p ≤ 24
  n : l.length ≤ 400
  b : ∀ (k : Nat) (hk : k < l.length), 0 ≤ l[k].b ∧ l[k].b ≤ p - 2
  sh : sheetE p l = 0
theorem good_of {p s : Int} {l : List Tri} (h : chkE p l s = 0) : Good p l s := by
  unfold chkE at h
  by_cases hs : sheetE p l = 0
  · rw [if_pos hs] at h
    have hsp : spansB p s = true := by
      cases hsp : spansB p s
      · rw [hsp] at h; simp at h
      · rfl
    unfold spansB at hsp
    simp only [Bool.and_eq_true, decide_eq_true_eq] at hsp
    have hs2 := hs
    unfold sheetE at hs2
    split at hs2
    · cases hs2
    · rename_i h3
      split at hs2
      · cases hs2
      · split at hs2
        · cases hs2
        · rename_i hbad
          have hbad' : l.any (badW p) = false := by simpa using hbad
          have h24 : ¬ 24 < p := fun h => h3 (Or.inl h)
          have h400 : ¬ 400 < l.length := fun h => h3 (Or.inr (Or.inl h))
          refine ⟨by omega, by omega, by omega, by omega, fun k hk => ?_, hs⟩
          have := any_not hbad' k hk
          rw [badW_false] at this
          omega
  · rw [if_neg hs] at h; exact absurd h hs
end Go.Proofs.Ytfnklchhhojimaa

namespace Tor
open Go Go.RowKit

def Ex.here (w : World) : Ex w := ⟨w, Below.refl _ _⟩
theorem Ex.lt {w0 : World} (g : Ex w0) {b : Nat} (h : b < w0.heap.size) : b < g.w.heap.size := Nat.lt_of_lt_of_le h g.h.size
attribute [go_sem] Ex.lt
theorem Ex.le {w0 : World} (g : Ex w0) {b : Nat} (h : b ≤ w0.heap.size) : b ≤ g.w.heap.size := Nat.le_trans h g.h.size
theorem le_alloc {w : World} {o : Obj} {b : Nat} (h : b ≤ w.heap.size) : b ≤ (w.alloc o).heap.size := by simp; omega
theorem lt_alloc {w : World} {o : Obj} {b : Nat} (h : b ≤ w.heap.size) : b < (w.alloc o).heap.size := by simp; omega
theorem Ex.on {B : Nat} {w w0 : World} (h : Below B w w0) (hB : B ≤ w0.heap.size) (g : Ex w0) : Below B w g.w := h.trans (g.h.mono hB)
@[go_sem] theorem Ex.frozen {w0 : World} (g : Ex w0) (b o : Nat) (hb : b < w0.heap.size) : g.w.frozen? ⟨b, o, none⟩ = w0.frozen? ⟨b, o, none⟩ := g.h.frozen (p := ⟨b, o, none⟩) hb
theorem _root_.Go.RowKit.Below.ex {w w' : World} (h : Below w.heap.size w w') : ∃ g : Ex w, w' = g.w := ⟨⟨w', h⟩, rfl⟩

/-- the call's world as a term -/
theorem cx {P : Program} {f : FuncId} {args : Array Value} {w : World} {v : Value} (h : Calls P f args w (Ret v w)) :
    Calls P f args w fun e w' => e = .returned v ∧ ∃ g : Ex w, w' = g.w := h.mono fun _ _ ⟨he, hb⟩ => ⟨he, hb.ex⟩
theorem Rd.ex {α : Type} {sz : Nat} {enc : α → List Value} {w0 : World} {B : Nat} {A : Option Addr} {l : List α} (h : Rd sz enc w0 B A l) (hB : B ≤ w0.heap.size) (g : Ex w0) : Rd sz enc g.w B A l := h.below' g.h hB
theorem Rd.al {α : Type} {sz : Nat} {enc : α → List Value} {w0 : World} {B : Nat} {A : Option Addr} {l : List α} (h : Rd sz enc w0 B A l) (hB : B ≤ w0.heap.size) (o : Obj) : Rd sz enc (w0.alloc o) B A l :=
  h.below' ((Below.refl w0.heap.size w0).alloc (Nat.le_refl _) o) hB
theorem Rd.dr {α : Type} {sz : Nat} {enc : α → List Value} {w0 : World} {B : Nat} {A : Option Addr} {l : List α} (h : Rd sz enc w0 B A l) : Rd sz enc w0.drew B A l := h
end Tor
