/- Merged: SortW SortC. -/
import Derived.Test.YtoccplfnjammjaaGreatDoorGrid
import Derived.Shelf.SlSortCmp.NoneTotal
import Derived.Test.YtoccplfnjammjaaGreatDoorSortG
import Derived.Test.YtoccplfnjammjaaGreatDoorShelfS
import Derived.BigRegion
set_option linter.unusedSimpArgs false
set_option linter.unusedVariables false
namespace Go.Proofs.YtoccplfnjammjaaGreatDoor
open Go Go.RowKit Tor

section
variable {N : Nat}
def fenc (x : Fin N) : Value := .int .i64 (x.1 : Nat)
theorem fenc_one : Go.Proofs.OneCell (fenc (N := N)) := fun _ => rfl
/-- the row, its numbers being below N -/
def finL (N : Nat) : (r : List Nat) → (∀ i ∈ r, i < N) → List (Fin N)
  | [], _ => []
  | x :: r, h => ⟨x, h x (by simp)⟩ :: finL N r (fun i hi => h i (by simp [hi]))
theorem finL_val : ∀ (r : List Nat) (h : ∀ i ∈ r, i < N), (finL N r h).map (·.1) = r
  | [], _ => rfl
  | x :: r, h => by rw [finL, List.map_cons, finL_val r]
theorem finL_len (r : List Nat) (h : ∀ i ∈ r, i < N) : (finL N r h).length = r.length := by
  have := congrArg List.length (finL_val r h)
  simpa using this
theorem flat_nenc : ∀ r : List Nat, r.flatMap nenc = r.map fun i => Value.int .i64 (i : Nat)
  | [] => rfl
  | x :: r => by rw [List.flatMap_cons, flat_nenc r]; rfl
theorem own_cells {w : World} {base : Nat} {e : TypeId} {g n c : Nat} {r : List Nat} (h : Own 1 nenc w base e (.slice (some ⟨g, 0, none⟩) n c) r) :
    n = r.length ∧ base ≤ g ∧ g < w.heap.size ∧ ∃ cur : Array Value, w.heap[g]? = some (.cells cur e (0, 0)) ∧ n ≤ c ∧ c ≤ maxLen ∧ cur.size = c ∧ cur.toList.take n = r.map fun i => Value.int .i64 (i : Nat) := by
  obtain ⟨h1, h2⟩ := h
  rcases h2 with ⟨h', _⟩ | ⟨g', cap, cur, h', hb, hh, hnc, hcm, hcs, ht⟩
  · simp at h'
  · simp only [Value.slice.injEq, Option.some.injEq, Addr.mk.injEq, and_true, true_and] at h'
    obtain ⟨rfl, rfl, rfl⟩ := h'
    refine ⟨rfl, hb, (Array.getElem?_eq_some_iff.1 hh).1, cur, hh, hnc, hcm, by omega, ?_⟩
    rw [Nat.mul_one] at ht
    rw [ht, flat_nenc]
theorem own_of_cells {w : World} {base : Nat} {e : TypeId} {g n c : Nat} {r : List Nat} {cur : Array Value} (hn : n = r.length) (hb : base ≤ g) (hh : w.heap[g]? = some (.cells cur e (0, 0))) (hnc : n ≤ c) (hcm : c ≤ maxLen) (hcs : cur.size = c) (ht : cur.toList.take n = r.map fun i => Value.int .i64 (i : Nat)) : Own 1 nenc w base e (.slice (some ⟨g, 0, none⟩) n c) r := by
  subst hn
  refine ⟨by rw [flat_nenc]; simp, .inr ⟨g, c, cur, rfl, hb, hh, hnc, hcm, by omega, by rw [Nat.mul_one, ht, flat_nenc]⟩⟩
theorem holds_own {w : World} {base : Nat} {e : TypeId} {g n c : Nat} {r : List Nat} (hr : ∀ i ∈ r, i < N) [Inhabited (Fin N)] (h : Own 1 nenc w base e (.slice (some ⟨g, 0, none⟩) n c) r) : Go.Sort.Holds fenc w g 0 (finL N r hr).toArray := by
  obtain ⟨hn, hb, hg, cur, hh, hnc, hcm, hcs, ht⟩ := own_cells h
  have kB : Blk w g e cur := hh
  have hl := finL_len r hr
  intro j hj
  have hj2 : j < r.length := by simpa [hl] using hj
  refine ⟨?_, kB.frozen _⟩
  rw [Nat.zero_add]
  refine kB.cell j _ ?_
  have e1 : cur.toList[j]? = some (Value.int .i64 (r[j] : Nat)) := by
    have : (cur.toList.take n)[j]? = cur.toList[j]? := by rw [List.getElem?_take, if_pos (by omega)]
    rw [← this, ht, List.getElem?_map, List.getElem?_eq_getElem hj2]; rfl
  rw [← Array.getElem?_toList, e1]
  have e2 : ((finL N r hr).toArray[j]!).1 = r[j] := by
    rw [getElem!_pos _ j hj]
    have := congrArg (fun l => l[j]?) (finL_val r hr)
    simp only [List.getElem?_map] at this
    rw [List.getElem?_eq_getElem (by rw [hl]; exact hj2), List.getElem?_eq_getElem hj2] at this
    simpa using this
  unfold fenc
  rw [e2]
theorem sorted_grown [Inhabited (Fin N)] (w : World) (g m : Nat) (d : Array (Fin N)) (os : Array Obj) : w.grownBy (sortWorld fenc w g 0 m d os) (some g) where
  os := rfl
  tape := rfl
  output := rfl
  size := by
    show w.heap.size ≤ ((Go.Sort.putRow fenc (Go.Sort.ahead w m) g 0 d).heap ++ os).size
    rw [Array.size_append, Go.Sort.size_putRow, Go.Sort.heap_ahead]; omega
  block := fun k hk hne => by
    show ((Go.Sort.putRow fenc (Go.Sort.ahead w m) g 0 d).heap ++ os)[k]? = _
    rw [Array.getElem?_append_left (by rw [Go.Sort.size_putRow, Go.Sort.heap_ahead]; exact hk)]
    show (w.heap.modify g _)[k]? = _
    rw [Array.getElem?_modify, if_neg (fun e => hne (by rw [e]))]
theorem sorted_own [Inhabited (Fin N)] {w : World} {base : Nat} {e : TypeId} {g n c : Nat} {r : List Nat} (m : Nat) (d : Array (Fin N)) (os : Array Obj) (h : Own 1 nenc w base e (.slice (some ⟨g, 0, none⟩) n c) r) (hd : d.size = r.length) :
    Own 1 nenc (sortWorld fenc w g 0 m d os) base e (.slice (some ⟨g, 0, none⟩) n c) (d.toList.map (·.1)) := by
  obtain ⟨hn, hb, hg, cur, hh, hnc, hcm, hcs, ht⟩ := own_cells h
  refine own_of_cells (cur := Go.Sort.putCells fenc 0 d cur) (by simp [hd, hn]) hb ?_ hnc hcm (by unfold Go.Sort.putCells; simp [hcs]) ?_
  · show ((Go.Sort.putRow fenc (Go.Sort.ahead w m) g 0 d).heap ++ os)[g]? = _
    rw [Array.getElem?_append_left (by rw [Go.Sort.size_putRow, Go.Sort.heap_ahead]; exact hg)]
    show (w.heap.modify g _)[g]? = _
    rw [Array.getElem?_modify, if_pos rfl, hh]; rfl
  · apply List.ext_getElem?
    intro j
    rw [List.getElem?_take]
    unfold Go.Sort.putCells
    by_cases hj : j < n
    · have hjd : j < d.size := by omega
      rw [if_pos hj, Array.getElem?_toList, Array.getElem?_mapIdx, Array.getElem?_eq_getElem (by omega)]
      simp only [Option.map_some, Nat.zero_le, Nat.zero_add, true_and, Nat.sub_zero, hjd, if_true]
      rw [List.getElem?_map, List.getElem?_map, List.getElem?_eq_getElem (by simpa using hjd)]
      have e9 : d[j]! = d[j] := getElem!_pos d j hjd
      simp only [Option.map_some, fenc, e9, Array.getElem_toList]
    · rw [if_neg hj, List.getElem?_eq_none (by simp; omega)]
end
/-- works by their places -/
def cfW (l : List Tri) (x y : Fin l.length) : Int := (xAt l x.1).b - (xAt l y.1).b
theorem cfW_lt (l : List Tri) (x y : Fin l.length) : ltOf (cfW l) x y = decide ((xAt l x.1).b < (xAt l y.1).b) := by
  unfold ltOf cfW
  congr 1
  exact propext ⟨fun h => by omega, fun h => by omega⟩
theorem cfW_swo (l : List Tri) : Go.Sort.SWO (ltOf (cfW l)) where
  irrefl x := by rw [cfW_lt]; simp
  trans x y z h1 h2 := by rw [cfW_lt] at *; simp at *; omega
  ntrans x y z h1 h2 := by rw [cfW_lt] at *; simp at *; omega
/-- what SortFunc leaves -/
theorem sorted_perm {N : Nat} [Inhabited (Fin N)] {lt : Fin N → Fin N → Bool} {d d' : Array (Fin N)} {r : List Nat} (hr : ∀ i ∈ r, i < N) (hd : d = (finL N r hr).toArray) (hp : Go.Sort.PermIn 0 d.size d d') (hs : Go.Sort.SortedIn lt 0 d.size d') :
    d'.size = r.length ∧ (d'.toList.map (·.1)).Perm r ∧ d'.toList.Pairwise (fun x y => lt y x = false) := by
  obtain ⟨h1, _, h3⟩ := hp
  have hl := finL_len r hr
  have hds : d.size = r.length := by rw [hd]; simpa using hl
  refine ⟨by omega, ?_, ?_⟩
  · have e1 : d'.extract 0 d.size = d' := by rw [← h1]; exact Array.extract_size
    have e2 : d.extract 0 d.size = d := Array.extract_size
    rw [e1, e2] at h3
    have := h3.map (·.1)
    rw [hd] at this
    simp only [finL_val] at this
    exact this
  · rw [List.pairwise_iff_getElem]
    intro i j hi hj hij
    have hi' : i < d'.size := by simpa using hi
    have hj' : j < d'.size := by simpa using hj
    have := hs i j (Nat.zero_le _) hij (by omega)
    rw [getElem!_pos _ i hi', getElem!_pos _ j hj'] at this
    simpa using this
end Go.Proofs.YtoccplfnjammjaaGreatDoor

namespace Go.Proofs.YtoccplfnjammjaaGreatDoor
open Go Go.RowKit Tor

set_option maxRecDepth 100000 in
theorem rowsCmp_any (p : Int) (A : Option Addr) (l : List Tri) (c sB : Nat) (W : World) (H : Nat) (x y : Nat) (hx : x < l.length) (hy : y < l.length) (hc : W.cell? ⟨sB, 1, none⟩ = some (.slice A l.length c)) (hr : RdT W H A l) (hH : H ≤ W.heap.size)
    (hb : ∀ (k : Nat) (hk : k < l.length), 0 ≤ l[k].b ∧ l[k].b ≤ 100) (hl : l.length ≤ 400) :
    Calls Tryz.prog 58 #[.int .i64 x, .int .i64 y, .pointer (some ⟨sB, 0, none⟩)] W fun e w' => e = .returned (.int .i64 (l[x].b - l[y].b)) ∧ ∃ q, w' = W.drewN q := by
  obtain ⟨b, o, rfl, hb0, _, g1, _⟩ := hr.tri hx
  obtain ⟨_, _, k1, _⟩ := hr.triAt hy
  have d1 := hb x hx
  have d2 := hb y hy
  generalize l[x].b = bx at *
  generalize l[y].b = bY at *
  have e1 : IntKind.i64.wrap (bx - bY) = bx - bY := IntWalk.i64_in _ (by omega)
  have sl := lt_of_cell hc
  have bl := lt_of_cell g1
  have x0 : (0 : Int) ≤ (x : Int) := by omega
  have y0 : (0 : Int) ≤ (y : Int) := by omega
  have x1 : (x : Int) < (l.length : Int) := by omega
  have y1 : (y : Int) < (l.length : Int) := by omega
  have HB := Lib.hid hb
  have HH := Lib.hid hH
  clear hb d1 d2 hH hr
  go_enter Tryz.func58, Tryz.ntmps58
  go_wp2_with fail
  go_quiet (fail)
  go_wp2_with fail
  go_ret
  exact ⟨rfl, _, rfl⟩
theorem tri_getD {l : List Tri} {x : Nat} (h : x < l.length) : xAt l x = l[x] := xAt_of h
theorem rd_same {w W : World} {H g : Nat} {A : Option Addr} {l : List Tri} {base : Nat} (h : RdT w H A l) (hH : H ≤ base) (hHs : H ≤ w.heap.size) (hgb : base ≤ g) (hg : w.grownBy W (some g)) : RdT W H A l :=
  h.keep fun q hq => World.cell?_of_block (hg.block q.block (by omega) (by intro e; simp only [Option.some.injEq] at e; omega))
/-- a row is sorted by its places -/
theorem sort_any : SortSaid := by
  intro p A l c sB base w H v r hown hri hrl hS hsb hr hH hHs hb hl
  have hv := hown.2
  rcases hv with ⟨rfl, hn⟩ | ⟨g, cap, cur, rfl, hgb, _⟩
  · have hS := AnyF.slices_SortFunc_none (P := Tryz.prog) (ρ := Tryz.sortL_ren) { Tryz.sortL with } none 0 (.func (.func 58) #[] #[.pointer (some ⟨sB, 0, none⟩)]) w
    change Calls Tryz.prog 57 _ _ _ at hS
    refine hS.mono ?_
    rintro e w' ⟨rfl, rfl⟩
    have : r = [] := List.eq_nil_of_length_eq_zero hn
    subst this
    exact ⟨rfl, [], List.Perm.refl _, List.Pairwise.nil, hown, ⟨rfl, rfl, rfl, Nat.le_refl _, fun _ _ _ => rfl⟩⟩
  · by_cases hne : r = []
    · subst hne
      have hS := AnyF.slices_SortFunc_none (P := Tryz.prog) (ρ := Tryz.sortL_ren) { Tryz.sortL with } (some ⟨g, 0, none⟩) cap (.func (.func 58) #[] #[.pointer (some ⟨sB, 0, none⟩)]) w
      change Calls Tryz.prog 57 _ _ _ at hS
      refine hS.mono ?_
      rintro e w' ⟨rfl, rfl⟩
      exact ⟨rfl, [], List.Perm.refl _, List.Pairwise.nil, hown, ⟨rfl, rfl, rfl, Nat.le_refl _, fun _ _ _ => rfl⟩⟩
    · obtain ⟨x0, hx0⟩ := List.exists_mem_of_ne_nil r hne
      haveI : Inhabited (Fin l.length) := ⟨⟨x0, hri x0 hx0⟩⟩
      have hlen := finL_len r hri
      have hsz : (finL l.length r hri).toArray.size = r.length := by simpa using hlen
      obtain ⟨hn, hb0, hgl, _⟩ := own_cells hown
      have hcmp : CmpReads Tryz.prog 58 #[.pointer (some ⟨sB, 0, none⟩)] fenc (cfW l) g 0 (finL l.length r hri).toArray.size w := fun m os dk _ x y => by
        have hg2 := sorted_grown w g m dk os
        have hc2 : (sortWorld fenc w g 0 m dk os).cell? ⟨sB, 1, none⟩ = some (.slice A l.length c) := (World.cell?_of_block (a := ⟨sB, 1, none⟩) (hg2.block sB (lt_of_cell hS) (by intro e; simp only [Option.some.injEq] at e; omega))).trans hS
        have h := rowsCmp_any p A l c sB (sortWorld fenc w g 0 m dk os) H x.1 y.1 x.2 y.2 hc2 (rd_same hr hH hHs hb0 hg2) (Nat.le_trans hHs hg2.size) hb hl
        refine h.mono ?_
        rintro e w' ⟨rfl, hq⟩
        refine ⟨?_, hq⟩
        unfold cfW
        rw [xAt_of x.2, xAt_of y.2]
      have eg : ∀ args w, (callFunc 58 args).run Tryz.prog w = .ok (.enter 58 args) w := enters_of Tryz.func58 (by kernel_rfl) rfl
      have hS2 := Any.slices_SortFunc Tryz.sortL fenc fenc_one (cfW l) (cfW_swo l) 58 #[.pointer (some ⟨sB, 0, none⟩)] g 0 cap (finL l.length r hri).toArray w eg hcmp.lays (holds_own hri hown) hgl (by rw [hsz]; omega)
      rw [hsz] at hS2
      change Calls Tryz.prog 57 _ _ _ at hS2
      refine hS2.mono ?_
      rintro e w' ⟨rfl, d', n, os, hp, hs, rfl⟩
      rw [← hsz] at hp hs
      obtain ⟨s1, s2, s3⟩ := sorted_perm hri rfl hp hs
      refine ⟨rfl, d'.toList.map (·.1), s2, ?_, sorted_own n d' os hown s1, sorted_grown w g n d' os⟩
      rw [List.pairwise_map]
      refine s3.imp (fun {a b} h => ?_)
      rw [cfW_lt] at h
      simp at h
      exact h
end Go.Proofs.YtoccplfnjammjaaGreatDoor
