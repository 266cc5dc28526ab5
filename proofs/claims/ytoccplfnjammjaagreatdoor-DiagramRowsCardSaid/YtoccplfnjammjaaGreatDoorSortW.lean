/- Rows of numbers that are sorted by slices.SortFunc. -/
import Derived.Test.YtoccplfnjammjaaGreatDoorGrid
import Derived.Shelf.SlSortCmp.NoneTotal
set_option linter.unusedSimpArgs false
set_option linter.unusedVariables false
namespace Go.Proofs.YtoccplfnjammjaaGreatDoor
open Go Go.RowKit Tor

section
variable {N : Nat}
def fenc (x : Fin N) : Value := .int .i64 (x.1 : Nat)
theorem fenc_one : Go.Proofs.OneCell (fenc (N := N)) := fun _ => rfl
/-- the row, its numbers being below N -/
def finL (N : Nat) : (r : List Nat) → (∀ i ∈ r, i < N) → List (Fin N)
  | [], _ => []
  | x :: r, h => ⟨x, h x (by simp)⟩ :: finL N r (fun i hi => h i (by simp [hi]))
theorem finL_val : ∀ (r : List Nat) (h : ∀ i ∈ r, i < N), (finL N r h).map (·.1) = r
  | [], _ => rfl
  | x :: r, h => by rw [finL, List.map_cons, finL_val r]
theorem finL_len (r : List Nat) (h : ∀ i ∈ r, i < N) : (finL N r h).length = r.length := by
  have := congrArg List.length (finL_val r h)
  simpa using this
theorem flat_nenc : ∀ r : List Nat, r.flatMap nenc = r.map fun i => Value.int .i64 (i : Nat)
  | [] => rfl
  | x :: r => by rw [List.flatMap_cons, flat_nenc r]; rfl
theorem own_cells {w : World} {base : Nat} {e : TypeId} {g n c : Nat} {r : List Nat} (h : Own 1 nenc w base e (.slice (some ⟨g, 0, none⟩) n c) r) :
    n = r.length ∧ base ≤ g ∧ g < w.heap.size ∧ ∃ cur : Array Value, w.heap[g]? = some (.cells cur e (0, 0)) ∧ n ≤ c ∧ c ≤ maxLen ∧ cur.size = c ∧ cur.toList.take n = r.map fun i => Value.int .i64 (i : Nat) := by
  obtain ⟨h1, h2⟩ := h
  rcases h2 with ⟨h', _⟩ | ⟨g', cap, cur, h', hb, hh, hnc, hcm, hcs, ht⟩
  · simp at h'
  · simp only [Value.slice.injEq, Option.some.injEq, Addr.mk.injEq, and_true, true_and] at h'
    obtain ⟨rfl, rfl, rfl⟩ := h'
    refine ⟨rfl, hb, (Array.getElem?_eq_some_iff.1 hh).1, cur, hh, hnc, hcm, by omega, ?_⟩
    rw [Nat.mul_one] at ht
    rw [ht, flat_nenc]
theorem own_of_cells {w : World} {base : Nat} {e : TypeId} {g n c : Nat} {r : List Nat} {cur : Array Value} (hn : n = r.length) (hb : base ≤ g) (hh : w.heap[g]? = some (.cells cur e (0, 0))) (hnc : n ≤ c) (hcm : c ≤ maxLen) (hcs : cur.size = c) (ht : cur.toList.take n = r.map fun i => Value.int .i64 (i : Nat)) : Own 1 nenc w base e (.slice (some ⟨g, 0, none⟩) n c) r := by
  subst hn
  refine ⟨by rw [flat_nenc]; simp, .inr ⟨g, c, cur, rfl, hb, hh, hnc, hcm, by omega, by rw [Nat.mul_one, ht, flat_nenc]⟩⟩
theorem holds_own {w : World} {base : Nat} {e : TypeId} {g n c : Nat} {r : List Nat} (hr : ∀ i ∈ r, i < N) [Inhabited (Fin N)] (h : Own 1 nenc w base e (.slice (some ⟨g, 0, none⟩) n c) r) : Go.Sort.Holds fenc w g 0 (finL N r hr).toArray := by
  obtain ⟨hn, hb, hg, cur, hh, hnc, hcm, hcs, ht⟩ := own_cells h
  have kB : Blk w g e cur := hh
  have hl := finL_len r hr
  intro j hj
  have hj2 : j < r.length := by simpa [hl] using hj
  refine ⟨?_, kB.frozen _⟩
  rw [Nat.zero_add]
  refine kB.cell j _ ?_
  have e1 : cur.toList[j]? = some (Value.int .i64 (r[j] : Nat)) := by
    have : (cur.toList.take n)[j]? = cur.toList[j]? := by rw [List.getElem?_take, if_pos (by omega)]
    rw [← this, ht, List.getElem?_map, List.getElem?_eq_getElem hj2]; rfl
  rw [← Array.getElem?_toList, e1]
  have e2 : ((finL N r hr).toArray[j]!).1 = r[j] := by
    rw [getElem!_pos _ j hj]
    have := congrArg (fun l => l[j]?) (finL_val r hr)
    simp only [List.getElem?_map] at this
    rw [List.getElem?_eq_getElem (by rw [hl]; exact hj2), List.getElem?_eq_getElem hj2] at this
    simpa using this
  unfold fenc
  rw [e2]
theorem sorted_grown [Inhabited (Fin N)] (w : World) (g m : Nat) (d : Array (Fin N)) (os : Array Obj) : w.grownBy (sortWorld fenc w g 0 m d os) (some g) where
  os := rfl
  tape := rfl
  output := rfl
  size := by
    show w.heap.size ≤ ((Go.Sort.putRow fenc (Go.Sort.ahead w m) g 0 d).heap ++ os).size
    rw [Array.size_append, Go.Sort.size_putRow, Go.Sort.heap_ahead]; omega
  block := fun k hk hne => by
    show ((Go.Sort.putRow fenc (Go.Sort.ahead w m) g 0 d).heap ++ os)[k]? = _
    rw [Array.getElem?_append_left (by rw [Go.Sort.size_putRow, Go.Sort.heap_ahead]; exact hk)]
    show (w.heap.modify g _)[k]? = _
    rw [Array.getElem?_modify, if_neg (fun e => hne (by rw [e]))]
theorem sorted_own [Inhabited (Fin N)] {w : World} {base : Nat} {e : TypeId} {g n c : Nat} {r : List Nat} (m : Nat) (d : Array (Fin N)) (os : Array Obj) (h : Own 1 nenc w base e (.slice (some ⟨g, 0, none⟩) n c) r) (hd : d.size = r.length) :
    Own 1 nenc (sortWorld fenc w g 0 m d os) base e (.slice (some ⟨g, 0, none⟩) n c) (d.toList.map (·.1)) := by
  obtain ⟨hn, hb, hg, cur, hh, hnc, hcm, hcs, ht⟩ := own_cells h
  refine own_of_cells (cur := Go.Sort.putCells fenc 0 d cur) (by simp [hd, hn]) hb ?_ hnc hcm (by unfold Go.Sort.putCells; simp [hcs]) ?_
  · show ((Go.Sort.putRow fenc (Go.Sort.ahead w m) g 0 d).heap ++ os)[g]? = _
    rw [Array.getElem?_append_left (by rw [Go.Sort.size_putRow, Go.Sort.heap_ahead]; exact hg)]
    show (w.heap.modify g _)[g]? = _
    rw [Array.getElem?_modify, if_pos rfl, hh]; rfl
  · apply List.ext_getElem?
    intro j
    rw [List.getElem?_take]
    unfold Go.Sort.putCells
    by_cases hj : j < n
    · have hjd : j < d.size := by omega
      rw [if_pos hj, Array.getElem?_toList, Array.getElem?_mapIdx, Array.getElem?_eq_getElem (by omega)]
      simp only [Option.map_some, Nat.zero_le, Nat.zero_add, true_and, Nat.sub_zero, hjd, if_true]
      rw [List.getElem?_map, List.getElem?_map, List.getElem?_eq_getElem (by simpa using hjd)]
      have e9 : d[j]! = d[j] := getElem!_pos d j hjd
      simp only [Option.map_some, fenc, e9, Array.getElem_toList]
    · rw [if_neg hj, List.getElem?_eq_none (by simp; omega)]
end
/-- works by their places -/
def cfW (l : List Tri) (x y : Fin l.length) : Int := (xAt l x.1).b - (xAt l y.1).b
theorem cfW_lt (l : List Tri) (x y : Fin l.length) : ltOf (cfW l) x y = decide ((xAt l x.1).b < (xAt l y.1).b) := by
  unfold ltOf cfW
  congr 1
  exact propext ⟨fun h => by omega, fun h => by omega⟩
theorem cfW_swo (l : List Tri) : Go.Sort.SWO (ltOf (cfW l)) where
  irrefl x := by rw [cfW_lt]; simp
  trans x y z h1 h2 := by rw [cfW_lt] at *; simp at *; omega
  ntrans x y z h1 h2 := by rw [cfW_lt] at *; simp at *; omega
/-- what SortFunc leaves -/
theorem sorted_perm {N : Nat} [Inhabited (Fin N)] {lt : Fin N → Fin N → Bool} {d d' : Array (Fin N)} {r : List Nat} (hr : ∀ i ∈ r, i < N) (hd : d = (finL N r hr).toArray) (hp : Go.Sort.PermIn 0 d.size d d') (hs : Go.Sort.SortedIn lt 0 d.size d') :
    d'.size = r.length ∧ (d'.toList.map (·.1)).Perm r ∧ d'.toList.Pairwise (fun x y => lt y x = false) := by
  obtain ⟨h1, _, h3⟩ := hp
  have hl := finL_len r hr
  have hds : d.size = r.length := by rw [hd]; simpa using hl
  refine ⟨by omega, ?_, ?_⟩
  · have e1 : d'.extract 0 d.size = d' := by rw [← h1]; exact Array.extract_size
    have e2 : d.extract 0 d.size = d := Array.extract_size
    rw [e1, e2] at h3
    have := h3.map (·.1)
    rw [hd] at this
    simp only [finL_val] at this
    exact this
  · rw [List.pairwise_iff_getElem]
    intro i j hi hj hij
    have hi' : i < d'.size := by simpa using hi
    have hj' : j < d'.size := by simpa using hj
    have := hs i j (Nat.zero_le _) hij (by omega)
    rw [getElem!_pos _ i hi', getElem!_pos _ j hj'] at this
    simpa using this
end Go.Proofs.YtoccplfnjammjaaGreatDoor
