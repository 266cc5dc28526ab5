/- Rows of faults: what is owned, what is read, append; how many faults of a step there may be. -/
import Derived.OwnWalkIn
import Derived.Test.YtblifdchofihoaaAllP
set_option linter.unusedSimpArgs false
set_option linter.unusedVariables false
namespace Go.Proofs.Ytblifdchofihoaa
open Go Go.RowKit Tor

def fencL (f : Flt) : List Value := [.int .i64 f.k, .int .i64 f.st, .int .i64 f.lt, .int .i64 f.wi]
theorem flt_len (f : Flt) : (fencL f).length = 4 := rfl
theorem flt_one (f : Flt) : ∀ u ∈ fencL f, u.oneCell' = true := by
  intro u hu
  simp only [fencL, List.mem_cons, List.not_mem_nil, or_false] at hu
  rcases hu with rfl | rfl | rfl | rfl <;> rfl
abbrev RdFt := Rd 4 fencL
theorem Rd.flt {w : World} {B : Nat} {A : Option Addr} {l : List Flt} (h : RdFt w B A l) {k : Nat} (hk : k < l.length) :
    ∃ b o, A = some ⟨b, o, none⟩ ∧ b < B ∧ w.cell? ⟨b, o + k * 4, none⟩ = some (.int .i64 l[k].k) ∧ w.cell? ⟨b, o + k * 4 + 1, none⟩ = some (.int .i64 l[k].st) ∧
      w.cell? ⟨b, o + k * 4 + 2, none⟩ = some (.int .i64 l[k].lt) ∧ w.cell? ⟨b, o + k * 4 + 3, none⟩ = some (.int .i64 l[k].wi) := by
  obtain ⟨b, o, e, hb, hc⟩ := h (by intro h0; subst h0; simp at hk)
  have hx : l[k]? = some l[k] := List.getElem?_eq_getElem hk
  exact ⟨b, o, e, hb, hc k _ hx 0 _ rfl, hc k _ hx 1 _ rfl, hc k _ hx 2 _ rfl, hc k _ hx 3 _ rfl⟩
theorem infoFlt : (Try.prog.info? 24).map (fun i => (i.zero, i.size, i.bytes)) = some (some (.agg #[.int .i64 0, .int .i64 0, .int .i64 0, .int .i64 0]), 4, 32) := by kernel_rfl

theorem wpList_append_flt {P : Program} {ops : Array Oper} {rest : List Oper} {o : Oper} {a : Act} {Q : Exit → Act → World → Prop} {w : World} (hgd : o.guard = none) (s x : Operand) (t : TypeId)
    (ho : o.op = .call { callee := .builtin .append, args := #[s, x], argTypes := #[t, t] })
    (base : Nat) (e : TypeId) (i : TypeInfo) (z : Value) (ht : P.underlying t = some (.slice e)) (hi : P.info? e = some i) (hz : i.zero = some z)
    (hsize : i.size = 4) (hby : i.bytes = 32) (hzs : z.cells.size = 4)
    (v : Value) (l : List Flt) (hs : a.eval s = v) (hown : Own 4 fencL w base e v l)
    (g : Nat) (y : Flt) (hx : a.eval x = .slice (some ⟨g, 0, none⟩) 1 1)
    (h0 : w.cell? ⟨g, 0, none⟩ = some (.int .i64 y.k)) (h1 : w.cell? ⟨g, 1, none⟩ = some (.int .i64 y.st)) (h2 : w.cell? ⟨g, 2, none⟩ = some (.int .i64 y.lt)) (h3 : w.cell? ⟨g, 3, none⟩ = some (.int .i64 y.wi))
    (hlen : l.length ≤ 1000000) (hbase : base ≤ w.heap.size)
    (h : ∀ v' w', Own 4 fencL w' base e v' (l ++ [y]) → w.grownBy w' v.ownBlock → wpList P ops Q rest (a.put o.dst v') w') : wpList P ops Q (o :: rest) a w := by
  refine wpList_append_own w hgd s x t ho base e i z 4 32 ht hi hz hsize hby hzs (by omega) v l.length (l.flatMap fencL) hs hown ⟨g, 0, none⟩ 1 1 (fencL y) hx rfl ?_ (flt_one y) (by unfold maxLen; omega) (by omega) hbase
    (fun v' w' a b _ => h v' w' (Own.append1 rfl a) b)
  intro j u hu
  match j, hu with
  | 0, hu => simp [fencL] at hu; subst hu; exact h0
  | 1, hu => simp [fencL] at hu; subst hu; exact h1
  | 2, hu => simp [fencL] at hu; subst hu; exact h2
  | 3, hu => simp [fencL] at hu; subst hu; exact h3
theorem wpListIn_append_flt {F : Fence} {n : Nat} {P : Program} {ops : Array Oper} {rest : List Oper} {o : Oper} {a : Act} {Q : Exit → Act → World → Prop} {w : World} (hgd : o.guard = none) (s x : Operand) (t : TypeId)
    (ho : o.op = .call { callee := .builtin .append, args := #[s, x], argTypes := #[t, t] })
    (base : Nat) (e : TypeId) (i : TypeInfo) (z : Value) (ht : P.underlying t = some (.slice e)) (hi : P.info? e = some i) (hz : i.zero = some z)
    (hsize : i.size = 4) (hby : i.bytes = 32) (hzs : z.cells.size = 4)
    (v : Value) (l : List Flt) (hs : a.eval s = v) (hown : Own 4 fencL w base e v l)
    (g : Nat) (y : Flt) (hx : a.eval x = .slice (some ⟨g, 0, none⟩) 1 1)
    (h0 : w.cell? ⟨g, 0, none⟩ = some (.int .i64 y.k)) (h1 : w.cell? ⟨g, 1, none⟩ = some (.int .i64 y.st)) (h2 : w.cell? ⟨g, 2, none⟩ = some (.int .i64 y.lt)) (h3 : w.cell? ⟨g, 3, none⟩ = some (.int .i64 y.wi))
    (hlen : l.length ≤ 1000000) (hbase : base ≤ w.heap.size)
    (h : ∀ v' w', Own 4 fencL w' base e v' (l ++ [y]) → w.grownBy w' v.ownBlock → wpListIn F n P ops Q rest (a.put o.dst v') w') : wpListIn F n P ops Q (o :: rest) a w := by
  refine wpListIn_append_own w hgd s x t ho base e i z 4 32 ht hi hz hsize hby hzs (by omega) v l.length (l.flatMap fencL) hs hown ⟨g, 0, none⟩ 1 1 (fencL y) hx rfl ?_ (flt_one y) (by unfold maxLen; omega) (by omega) hbase
    (fun v' w' a b _ => h v' w' (Own.append1 rfl a) b)
  intro j u hu
  match j, hu with
  | 0, hu => simp [fencL] at hu; subst hu; exact h0
  | 1, hu => simp [fencL] at hu; subst hu; exact h1
  | 2, hu => simp [fencL] at hu; subst hu; exact h2
  | 3, hu => simp [fencL] at hu; subst hu; exact h3

/-- what a list of faults that is returned is -/
def FltRet (w : World) (l' : List Flt) (n : Int) (e : Ending) (w' : World) : Prop := ∃ v, e = .returned (.tuple #[v, .int .i64 n]) ∧ Own 4 fencL w' w.heap.size 24 v l' ∧ Below w.heap.size w w'

/-- what has come, as the reference lists it -/
def refW (p s : Int) (l : List Tri) (i : Nat) (k : Int) (n : Nat) (ws : List Int) : List Flt := (ws.map fun w => (⟨k, i, n, w⟩ : Flt)).filter (okF p s l)
def rp1 (p s : Int) (l : List Tri) (i : Nat) : List Flt := (List.range i).flatMap fun i => refI p s l i
def rp2 (p s : Int) (l : List Tri) (i j : Nat) : List Flt := rp1 p s l i ++ (kindsR.take j).flatMap fun k => refK p s l i k
def rp3 (p s : Int) (l : List Tri) (i j n : Nat) : List Flt := rp2 p s l i j ++ (List.range n).flatMap fun n => refN p s l i ((j : Int) + 1) n
def rp4 (p s : Int) (l : List Tri) (i j n m : Nat) : List Flt := rp3 p s l i j n ++ refW p s l i ((j : Int) + 1) n (withsR.take m)
theorem kinds_take {j : Nat} (h : j < 6) : kindsR.take (j + 1) = kindsR.take j ++ [(j : Int) + 1] := by
  rcases (show j = 0 ∨ j = 1 ∨ j = 2 ∨ j = 3 ∨ j = 4 ∨ j = 5 by omega) with rfl | rfl | rfl | rfl | rfl | rfl <;> rfl
theorem rp1_next (p s : Int) (l : List Tri) (i : Nat) : rp1 p s l (i + 1) = rp2 p s l i 6 := by
  unfold rp2 rp1
  rw [List.range_succ, List.flatMap_append]
  simp [refI, kindsR]
theorem rp2_zero (p s : Int) (l : List Tri) (i : Nat) : rp2 p s l i 0 = rp1 p s l i := by simp [rp2]
theorem rp2_next (p s : Int) (l : List Tri) (i j : Nat) (h : j < 6) : rp2 p s l i (j + 1) = rp3 p s l i j ((xAt l i).s.size + 1) := by
  unfold rp3 rp2
  rw [kinds_take h, List.flatMap_append, ← List.append_assoc]
  simp [refK]
theorem rp3_zero (p s : Int) (l : List Tri) (i j : Nat) : rp3 p s l i j 0 = rp2 p s l i j := by simp [rp3]
theorem rp3_next (p s : Int) (l : List Tri) (i j n : Nat) : rp3 p s l i j (n + 1) = rp4 p s l i j n 129 := by
  unfold rp4 rp3
  have e : withsR.take 129 = withsR := by rw [List.take_of_length_le]; simp [withsR]
  rw [List.range_succ, List.flatMap_append, e, ← List.append_assoc]
  simp [refN, refW]
theorem rp4_zero (p s : Int) (l : List Tri) (i j n : Nat) : rp4 p s l i j n 0 = rp3 p s l i j n := by simp [rp4, refW]
theorem withs_take {m : Nat} (h : m < 129) : withsR.take (m + 1) = withsR.take m ++ [(m : Int) - 1] := by
  have hm : m < withsR.length := by simpa [withsR] using h
  rw [← List.take_append_getElem hm]
  congr 1
  simp [withsR]
theorem rp4_next (p s : Int) (l : List Tri) (i j n m : Nat) (h : m < 129) :
    rp4 p s l i j n (m + 1) = rp4 p s l i j n m ++ (if okF p s l ⟨(j : Int) + 1, i, n, (m : Int) - 1⟩ = true then [⟨(j : Int) + 1, i, n, (m : Int) - 1⟩] else []) := by
  unfold rp4 refW
  rw [withs_take h, List.map_append, List.filter_append, ← List.append_assoc]
  simp only [List.map_cons, List.map_nil, List.filter_cons, List.filter_nil]
theorem rp1_all (p s : Int) (l : List Tri) : rp1 p s l l.length = allF p s l := rfl
theorem rp1_more (p s : Int) (l : List Tri) {i : Nat} (h : i ≤ l.length) : (rp1 p s l i).length ≤ (allF p s l).length := by
  obtain ⟨d, hd⟩ : ∃ d, l.length = i + d := ⟨l.length - i, by omega⟩
  unfold rp1 allF
  rw [hd, List.range_eq_range', List.range_eq_range', ← List.range'_append_1 (s := 0) (m := i), List.flatMap_append, List.length_append]
  omega
theorem flatB_len {α β : Type} {f : α → List β} {B : Nat} : ∀ (L : List α), (∀ x ∈ L, (f x).length ≤ B) → (L.flatMap f).length ≤ L.length * B
  | [], _ => by simp
  | x :: L, h => by
    have h1 := h x (by simp)
    have h2 := flatB_len L (fun y hy => h y (by simp [hy]))
    simp only [List.flatMap_cons, List.length_append, List.length_cons, Nat.succ_mul]
    omega
theorem refN_len (p s : Int) (l : List Tri) (i : Nat) (k : Int) (n : Nat) : (refN p s l i k n).length ≤ 129 := by
  unfold refN
  refine Nat.le_trans (List.length_filter_le _ _) ?_
  simp [withsR]
theorem rp4_len (p s : Int) (l : List Tri) (i j n m : Nat) (h1 : (rp1 p s l i).length ≤ 20000) (hs : (xAt l i).s.size ≤ 16) (hn : n ≤ 17) (hj : j < 6) : (rp4 p s l i j n m).length ≤ 1000000 := by
  unfold rp4 rp3 rp2
  simp only [List.length_append]
  have e0 : ∀ k : Int, (refK p s l i k).length ≤ 2193 := fun k => by
    unfold refK
    have h1 := flatB_len (f := fun n => refN p s l i k n) (B := 129) (List.range ((xAt l i).s.size + 1)) (fun n _ => refN_len _ _ _ _ _ _)
    rw [List.length_range] at h1
    have h2 : ((xAt l i).s.size + 1) * 129 ≤ 17 * 129 := Nat.mul_le_mul_right _ (by omega)
    omega
  have e1 := flatB_len (f := fun k => refK p s l i k) (B := 2193) (kindsR.take j) (fun k _ => e0 k)
  have e2 : (kindsR.take j).length ≤ 6 := by rw [List.length_take]; simp [kindsR]; omega
  have e2' := Nat.mul_le_mul_right 2193 e2
  have e3 := flatB_len (f := fun n => refN p s l i ((j : Int) + 1) n) (B := 129) (List.range n) (fun n _ => refN_len _ _ _ _ _ _)
  rw [List.length_range] at e3
  have e4 : (refW p s l i ((j : Int) + 1) n (withsR.take m)).length ≤ 129 := by
    unfold refW
    refine Nat.le_trans (List.length_filter_le _ _) ?_
    rw [List.length_map, List.length_take]
    simp [withsR]
    omega
  have e5 := Nat.mul_le_mul_right 129 hn
  omega
theorem ok_shaped {p s : Int} {l : List Tri} {f : Flt} (h : shapedF f = false) : okF p s l f = false := by
  cases h1 : okF p s l f
  · rfl
  · rw [(okF_parts h1).1] at h; cases h
theorem ok_fits {p s : Int} {l : List Tri} {f : Flt} (h : fitsF l f = false) : okF p s l f = false := by
  cases h1 : okF p s l f
  · rfl
  · rw [(okF_parts h1).2.1] at h; cases h
end Go.Proofs.Ytblifdchofihoaa
