/- slices.SortFunc of a row of works, by their places. -/
import Derived.Test.YtoccplfnjammjaaGreatDoorSortW
import Derived.Test.YtoccplfnjammjaaGreatDoorSortG
import Derived.Test.YtoccplfnjammjaaGreatDoorShelfS
import Derived.BigRegion
set_option linter.unusedSimpArgs false
set_option linter.unusedVariables false
namespace Go.Proofs.YtoccplfnjammjaaGreatDoor
open Go Go.RowKit Tor

set_option maxRecDepth 100000 in
theorem rowsCmp_any (p : Int) (A : Option Addr) (l : List Tri) (c sB : Nat) (W : World) (H : Nat) (x y : Nat) (hx : x < l.length) (hy : y < l.length) (hc : W.cell? ⟨sB, 1, none⟩ = some (.slice A l.length c)) (hr : RdT W H A l) (hH : H ≤ W.heap.size)
    (hb : ∀ (k : Nat) (hk : k < l.length), 0 ≤ l[k].b ∧ l[k].b ≤ 100) (hl : l.length ≤ 400) :
    Calls Tryz.prog 58 #[.int .i64 x, .int .i64 y, .pointer (some ⟨sB, 0, none⟩)] W fun e w' => e = .returned (.int .i64 (l[x].b - l[y].b)) ∧ ∃ q, w' = W.drewN q := by
  obtain ⟨b, o, rfl, hb0, _, g1, _⟩ := hr.tri hx
  obtain ⟨_, _, k1, _⟩ := hr.triAt hy
  have d1 := hb x hx
  have d2 := hb y hy
  generalize l[x].b = bx at *
  generalize l[y].b = bY at *
  have e1 : IntKind.i64.wrap (bx - bY) = bx - bY := IntWalk.i64_in _ (by omega)
  have sl := lt_of_cell hc
  have bl := lt_of_cell g1
  have x0 : (0 : Int) ≤ (x : Int) := by omega
  have y0 : (0 : Int) ≤ (y : Int) := by omega
  have x1 : (x : Int) < (l.length : Int) := by omega
  have y1 : (y : Int) < (l.length : Int) := by omega
  have HB := Lib.hid hb
  have HH := Lib.hid hH
  clear hb d1 d2 hH hr
  go_enter Tryz.func58, Tryz.ntmps58
  go_wp2_with fail
  go_quiet (fail)
  go_wp2_with fail
  go_ret
  exact ⟨rfl, _, rfl⟩
theorem tri_getD {l : List Tri} {x : Nat} (h : x < l.length) : xAt l x = l[x] := xAt_of h
theorem rd_same {w W : World} {H g : Nat} {A : Option Addr} {l : List Tri} {base : Nat} (h : RdT w H A l) (hH : H ≤ base) (hHs : H ≤ w.heap.size) (hgb : base ≤ g) (hg : w.grownBy W (some g)) : RdT W H A l :=
  h.keep fun q hq => World.cell?_of_block (hg.block q.block (by omega) (by intro e; simp only [Option.some.injEq] at e; omega))
/-- a row is sorted by its places -/
theorem sort_any : SortSaid := by
  intro p A l c sB base w H v r hown hri hrl hS hsb hr hH hHs hb hl
  have hv := hown.2
  rcases hv with ⟨rfl, hn⟩ | ⟨g, cap, cur, rfl, hgb, _⟩
  · have hS := AnyF.slices_SortFunc_none (P := Tryz.prog) (ρ := Tryz.sortL_ren) { Tryz.sortL with } none 0 (.func (.func 58) #[] #[.pointer (some ⟨sB, 0, none⟩)]) w
    change Calls Tryz.prog 57 _ _ _ at hS
    refine hS.mono ?_
    rintro e w' ⟨rfl, rfl⟩
    have : r = [] := List.eq_nil_of_length_eq_zero hn
    subst this
    exact ⟨rfl, [], List.Perm.refl _, List.Pairwise.nil, hown, ⟨rfl, rfl, rfl, Nat.le_refl _, fun _ _ _ => rfl⟩⟩
  · by_cases hne : r = []
    · subst hne
      have hS := AnyF.slices_SortFunc_none (P := Tryz.prog) (ρ := Tryz.sortL_ren) { Tryz.sortL with } (some ⟨g, 0, none⟩) cap (.func (.func 58) #[] #[.pointer (some ⟨sB, 0, none⟩)]) w
      change Calls Tryz.prog 57 _ _ _ at hS
      refine hS.mono ?_
      rintro e w' ⟨rfl, rfl⟩
      exact ⟨rfl, [], List.Perm.refl _, List.Pairwise.nil, hown, ⟨rfl, rfl, rfl, Nat.le_refl _, fun _ _ _ => rfl⟩⟩
    · obtain ⟨x0, hx0⟩ := List.exists_mem_of_ne_nil r hne
      haveI : Inhabited (Fin l.length) := ⟨⟨x0, hri x0 hx0⟩⟩
      have hlen := finL_len r hri
      have hsz : (finL l.length r hri).toArray.size = r.length := by simpa using hlen
      obtain ⟨hn, hb0, hgl, _⟩ := own_cells hown
      have hcmp : CmpReads Tryz.prog 58 #[.pointer (some ⟨sB, 0, none⟩)] fenc (cfW l) g 0 (finL l.length r hri).toArray.size w := fun m os dk _ x y => by
        have hg2 := sorted_grown w g m dk os
        have hc2 : (sortWorld fenc w g 0 m dk os).cell? ⟨sB, 1, none⟩ = some (.slice A l.length c) := (World.cell?_of_block (a := ⟨sB, 1, none⟩) (hg2.block sB (lt_of_cell hS) (by intro e; simp only [Option.some.injEq] at e; omega))).trans hS
        have h := rowsCmp_any p A l c sB (sortWorld fenc w g 0 m dk os) H x.1 y.1 x.2 y.2 hc2 (rd_same hr hH hHs hb0 hg2) (Nat.le_trans hHs hg2.size) hb hl
        refine h.mono ?_
        rintro e w' ⟨rfl, hq⟩
        refine ⟨?_, hq⟩
        unfold cfW
        rw [xAt_of x.2, xAt_of y.2]
      have eg : ∀ args w, (callFunc 58 args).run Tryz.prog w = .ok (.enter 58 args) w := enters_of Tryz.func58 (by kernel_rfl) rfl
      have hS2 := Any.slices_SortFunc Tryz.sortL fenc fenc_one (cfW l) (cfW_swo l) 58 #[.pointer (some ⟨sB, 0, none⟩)] g 0 cap (finL l.length r hri).toArray w eg hcmp.lays (holds_own hri hown) hgl (by rw [hsz]; omega)
      rw [hsz] at hS2
      change Calls Tryz.prog 57 _ _ _ at hS2
      refine hS2.mono ?_
      rintro e w' ⟨rfl, d', n, os, hp, hs, rfl⟩
      rw [← hsz] at hp hs
      obtain ⟨s1, s2, s3⟩ := sorted_perm hri rfl hp hs
      refine ⟨rfl, d'.toList.map (·.1), s2, ?_, sorted_own n d' os hown s1, sorted_grown w g n d' os⟩
      rw [List.pairwise_map]
      refine s3.imp (fun {a b} h => ?_)
      rw [cfW_lt] at h
      simp at h
      exact h
end Go.Proofs.YtoccplfnjammjaaGreatDoor
