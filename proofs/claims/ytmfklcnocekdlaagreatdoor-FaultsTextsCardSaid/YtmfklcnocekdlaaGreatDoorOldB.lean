/- Plain theory and walks of small functions (OldB). -/
import Derived.Test.YtmfklcnocekdlaaGreatDoorOldA5
import Derived.Test.YtmfklcnocekdlaaGreatDoorOldA1
import Derived.Test.YtmfklcnocekdlaaGreatDoorOldA4
import Derived.Test.YtmfklcnocekdlaaGreatDoorOldA3
import Derived.Laws.DeepStrings4
import Derived.Laws.AppendOwnNone
set_option linter.unusedSimpArgs false
set_option linter.unusedVariables false
namespace Go.Proofs.YtmfklcnocekdlaaGreatDoor
open Go Go.RowKit Tor

end Go.Proofs.YtmfklcnocekdlaaGreatDoor

namespace Go.Proofs.YtmfklcnocekdlaaGreatDoor
open Go Go.RowKit Tor

/-- is work i ready? -/
def rdyB (l : List Tri) (M : List Nat) (i : Nat) : Bool := (List.range i).all (fun k => M.contains k || !touchAt l i k) && !M.contains i

theorem rdyB_iff {l : List Tri} {M : List Nat} {i : Nat} (hi : i < l.length) : rdyB l M i = true ↔ rdy l M i := by
  unfold rdyB rdy
  simp only [Bool.and_eq_true, List.all_eq_true, List.mem_range, Bool.or_eq_true, Bool.not_eq_true', List.contains_eq_mem, decide_eq_true_eq, decide_eq_false_iff_not]
  constructor
  · rintro ⟨h1, h2⟩
    refine ⟨hi, h2, fun j hj hjM ht => ?_⟩
    rcases h1 j hj with h | h
    · exact hjM h
    · unfold touchAt touchB at h
      rw [xAt_of (by omega), xAt_of hi] at h
      simp only [Bool.and_eq_false_iff, decide_eq_false_iff_not] at h
      omega
  · rintro ⟨_, h2, h3⟩
    refine ⟨fun j hj => ?_, h2⟩
    by_cases hjM : j ∈ M
    · exact Or.inl hjM
    · right
      have := h3 j hj hjM
      unfold touchAt touchB
      rw [xAt_of (by omega), xAt_of hi]
      simp only [Bool.and_eq_false_iff, decide_eq_false_iff_not]
      omega

theorem all_made {n : Nat} {M : List Nat} (hnd : M.Nodup) (hM : ∀ x ∈ M, x < n) (hl : n ≤ M.length) : ∀ i, i < n → i ∈ M := fun i hi => Classical.byContradiction fun hc => by
  have := len_of_nodup n (M ++ [i]) (by rw [List.nodup_append]; exact ⟨hnd, by simp, fun x hx y hy e => by simp at hy; subst hy; subst e; exact hc hx⟩) (fun x hx => by
    rcases List.mem_append.1 hx with hx | hx
    · exact hM x hx
    · simp at hx; subst hx; exact hi)
  simp at this
  omega

section
variable (l : List Tri) (P S : Nat)
end
variable {l : List Tri} {P S : Nat}

end Go.Proofs.YtmfklcnocekdlaaGreatDoor

namespace Go.Proofs.YtmfklcnocekdlaaGreatDoor
open Go Go.RowKit Tor

/-- which works are made, as the reference keeps it -/
def doneL (n : Nat) (M : List Nat) : List Bool := (List.range n).map fun i => M.contains i
theorem doneL_len (n : Nat) (M : List Nat) : (doneL n M).length = n := by simp [doneL]
theorem doneL_get {n : Nat} {M : List Nat} {i : Nat} (h : i < (doneL n M).length) : (doneL n M)[i] = M.contains i := by simp [doneL]


end Go.Proofs.YtmfklcnocekdlaaGreatDoor

namespace Go.Proofs.YtmfklcnocekdlaaGreatDoor
open Go Go.RowKit Tor


end Go.Proofs.YtmfklcnocekdlaaGreatDoor

namespace Go.Proofs.YtmfklcnocekdlaaGreatDoor
open Go Go.RowKit Tor

theorem flat_benc : ∀ l : List Bool, l.flatMap benc = l.map Value.bool
  | [] => rfl
  | x :: l => by rw [List.flatMap_cons, flat_benc l]; rfl
theorem doneL_set {n : Nat} {M : List Nat} {i : Nat} : (doneL n M).set i true = doneL n (M ++ [i]) := by
  apply List.ext_getElem
  · simp [doneL_len]
  · intro k h1 h2
    rw [List.getElem_set, doneL_get h2]
    split
    · next e => subst e; simp
    · next e => rw [doneL_get (by simpa using h1)]; simp [Ne.symm e]


/-- the row that keeps what is made -/
def DoneRow (w : World) (base g cap n : Nat) (M : List Nat) : Prop := Own 1 benc w base 4 (.slice (some ⟨g, 0, none⟩) n cap) (doneL n M)

section
variable {w w' : World} {base g cap n : Nat} {M : List Nat}
theorem DoneRow.heap (h : DoneRow w base g cap n M) : base ≤ g ∧ g < w.heap.size ∧ ∃ cur, w.heap[g]? = some (.cells cur 4 (0, 0)) := by
  rcases h.2 with ⟨h', _⟩ | ⟨g', cap', cur, h', hb, hg, _⟩
  · simp at h'
  · simp only [Value.slice.injEq, Option.some.injEq, Addr.mk.injEq, and_true, true_and] at h'
    obtain ⟨rfl, _, rfl⟩ := h'
    exact ⟨hb, (Array.getElem?_eq_some_iff.1 hg).1, cur, hg⟩
theorem DoneRow.rd (h : DoneRow w base g cap n M) : RdB w w.heap.size (some ⟨g, 0, none⟩) (doneL n M) := by
  obtain ⟨A, c, e, _, hr⟩ := Own.rd bool_len h
  injection e with e1 _ _
  rw [e1]; exact hr
theorem DoneRow.cell (h : DoneRow w base g cap n M) {i : Nat} (hi : i < n) : w.cell? ⟨g, i, none⟩ = some (.bool (M.contains i)) := by
  obtain ⟨b, o, e, _, hc⟩ := Rd.bool h.rd (k := i) (by rw [doneL_len]; exact hi)
  injection e with e
  injection e with e1 e2 _
  subst e1; subst e2
  rw [doneL_get, Nat.zero_add] at hc
  exact hc
theorem DoneRow.below (h : DoneRow w base g cap n M) (hB : Below w.heap.size w w') : DoneRow w' base g cap n M := Own.below h hB
theorem DoneRow.frozen (h : DoneRow w base g cap n M) (i : Nat) : w.frozen? ⟨g, i, none⟩ = false := by
  have h' := h
  unfold DoneRow Own at h'
  rw [doneL_len] at h'
  exact h'.frozenAt i
theorem DoneRow.store (h : DoneRow w base g cap n M) (i : Nat) : DoneRow (w.setCell ⟨g, i, none⟩ (.bool true)) base g cap n (M ++ [i]) ∧ w.grownBy (w.setCell ⟨g, i, none⟩ (.bool true)) (some g) := by
  have h' := h
  unfold DoneRow Own at h' ⊢
  rw [doneL_len] at h' ⊢
  obtain ⟨h1, h2⟩ := h'.stored i (.bool true)
  refine ⟨?_, h2⟩
  have e : ((doneL n M).flatMap benc).set i (.bool true) = (doneL n (M ++ [i])).flatMap benc := by
    rw [flat_benc, flat_benc, ← doneL_set, List.map_set]
  rw [← e]; exact h1
theorem DoneRow.other (h : DoneRow w base g cap n M) {row : Option Nat} (hg : w.grownBy w' row) (hne : some g ≠ row) : DoneRow w' base g cap n M := by
  obtain ⟨h1, h2⟩ := h
  refine ⟨h1, ?_⟩
  rcases h2 with h2 | ⟨g', cap', cur, hv, hb, hh, r⟩
  · exact Or.inl h2
  · simp only [Value.slice.injEq, Option.some.injEq, Addr.mk.injEq, and_true, true_and] at hv
    obtain ⟨rfl, hnn, rfl⟩ := hv
    exact Or.inr ⟨g, cap, cur, by rw [← hnn], hb, (hg.block g (Array.getElem?_eq_some_iff.1 hh).1 hne).trans hh, r⟩
theorem DoneRow.alloc (h : DoneRow w base g cap n M) (o : Obj) : DoneRow (w.alloc o) base g cap n M := Own.alloc h o
end

/-- an owned row of n > 0 bools has an address -/
theorem DoneRow.of {w : World} {base n : Nat} {M : List Nat} {v : Value} (hn : 0 < n) (h : w.ownsRow base 4 1 v n ((doneL n M).flatMap benc)) : ∃ g cap, v = .slice (some ⟨g, 0, none⟩) n cap ∧ DoneRow w base g cap n M := by
  have h2 := h.2
  rcases h2 with ⟨_, h0⟩ | ⟨g, cap, cur, hv, _⟩
  · omega
  · subst hv
    refine ⟨g, cap, rfl, ?_⟩
    unfold DoneRow Own
    rw [doneL_len]; exact h

end Go.Proofs.YtmfklcnocekdlaaGreatDoor

namespace Go.Proofs.YtmfklcnocekdlaaGreatDoor
open Go Go.RowKit Tor

section
variable {l : List Tri} {P S : Nat}
end

theorem DoneRow.ne {w : World} {base g cap n : Nat} {M : List Nat} {v : Value} {done : List Tri} (hD : DoneRow w base g cap n M) (hO : Own 3 Tri.enc w base 52 v done) : some g ≠ v.ownBlock := by
  obtain ⟨_, _, cur, hc⟩ := hD.heap
  exact Own.ne_block hO hc (by decide)
theorem DoneRow.step {w w' : World} {base g cap n : Nat} {M : List Nat} {v : Value} {done : List Tri} {o : Obj} (hD : DoneRow w base g cap n M) (hO : Own 3 Tri.enc w base 52 v done) (hg : (w.alloc o).grownBy w' v.ownBlock) : DoneRow w' base g cap n M :=
  (hD.alloc o).other hg ((hD.alloc o).ne (hO.alloc o))


end Go.Proofs.YtmfklcnocekdlaaGreatDoor

namespace Go.Proofs.YtmfklcnocekdlaaGreatDoor
open Go Go.RowKit Tor

end Go.Proofs.YtmfklcnocekdlaaGreatDoor

namespace Go.Proofs.YtmfklcnocekdlaaGreatDoor
open Go Go.RowKit Tor

/-- the hands and the works behind k steps -/
def stS (l : List Tri) : Nat → Int × List Tri
  | 0 => (-1, [])
  | k + 1 => if (xAt l k).a = 1 then ((xAt l k).b, (stS l k).2) else ((stS l k).1, (stS l k).2 ++ [workOf (xAt l k)])
def errS (p s : Int) (l : List Tri) (k : Nat) : Int := doE p s (stS l k).1 (stS l k).2.length (xAt l k)
def finS (p s : Int) (l : List Tri) : Nat → Nat → Int × List Tri × Int × Int
  | 0, k => (p, (stS l k).2, 0, 0)
  | n + 1, k => if errS p s l k = 0 then finS p s l n (k + 1) else (0, [], k, errS p s l k)

/-- what Sheet returns: pairs, works, the bad step, the error -/
def sheetR (p s : Int) (l : List Tri) : Int × List Tri × Int × Int :=
  if handsE p s ≠ 0 then (0, [], 0, handsE p s) else if 1000 < l.length then (0, [], 0, 3) else finS p s l l.length 0

theorem finS_bad {p s : Int} {l : List Tri} {k : Nat} {h : Int} {d : List Tri} {e : Int} (hk : k < l.length) (hs : stS l k = (h, d)) (he : doE p s h d.length l[k] = e) (hn : e ≠ 0) : finS p s l (l.length - k) k = (0, [], (k : Int), e) := by
  obtain ⟨n, hn'⟩ : ∃ n, l.length - k = n + 1 := ⟨l.length - k - 1, by omega⟩
  have e1 : errS p s l k = e := by unfold errS; rw [hs, xAt_of hk]; exact he
  rw [hn', finS, e1, if_neg hn]
theorem finS_step {p s : Int} {l : List Tri} {k : Nat} {h : Int} {d : List Tri} (hk : k < l.length) (hs : stS l k = (h, d)) (he : doE p s h d.length l[k] = 0) : finS p s l (l.length - k) k = finS p s l (l.length - (k + 1)) (k + 1) := by
  obtain ⟨n, hn'⟩ : ∃ n, l.length - k = n + 1 := ⟨l.length - k - 1, by omega⟩
  have e1 : errS p s l k = 0 := by unfold errS; rw [hs, xAt_of hk]; exact he
  rw [hn', finS, if_pos e1]
  congr 1
  omega
theorem finS_end {p s : Int} {l : List Tri} {k : Nat} {h : Int} {d : List Tri} (hk : ¬ k < l.length) (hs : stS l k = (h, d)) : finS p s l (l.length - k) k = (p, d, 0, 0) := by
  rw [show l.length - k = 0 by omega, finS, hs]
theorem stS_reach {l : List Tri} {k : Nat} {h : Int} {d : List Tri} (hk : k < l.length) (hs : stS l k = (h, d)) (ha : l[k].a = 1) : stS l (k + 1) = (l[k].b, d) := by
  rw [stS, xAt_of hk, if_pos ha, hs]
theorem stS_work {l : List Tri} {k : Nat} {h : Int} {d : List Tri} (hk : k < l.length) (hs : stS l k = (h, d)) (ha : l[k].a ≠ 1) : stS l (k + 1) = (h, d ++ [workOf l[k]]) := by
  rw [stS, xAt_of hk, if_neg ha, hs]


/-- a step that is fine -/
structure Fine (p s h n : Int) (x : Tri) : Prop where
  sh : shapedB x = true
  w : wordE x.s = 0
  b0 : 0 ≤ x.b
  b1 : x.b ≤ p - 2
  r : x.a = 1 → x.b ≤ p - s
  held : x.a ≠ 1 → heldB h s x.b = true
  n : x.a ≠ 1 → n < 400
theorem fine_of {p s h n : Int} {x : Tri} (he : doE p s h n x = 0) : Fine p s h n x := by
  unfold doE at he
  split at he
  · cases he
  · rename_i h1
    split at he
    · rename_i h2; exact absurd he h2
    · rename_i h2
      split at he
      · cases he
      · rename_i h3
        split at he
        · cases he
        · rename_i h4
          split at he
          · cases he
          · rename_i h5
            refine ⟨by simpa using h1, by simpa using h2, by omega, by omega, by omega, fun ha => ?_, fun ha => ?_⟩
            · cases hh : heldB h s x.b
              · exact absurd ⟨ha, hh⟩ h4
              · rfl
            · rcases Int.lt_or_le n 400 with h | h
              · exact h
              · exact absurd ⟨ha, h⟩ h5
theorem fine_doE {p s h n : Int} {x : Tri} (f : Fine p s h n x) : doE p s h n x = 0 := by
  refine doE_0 f.sh f.w (by have := f.b0; have := f.b1; have := f.r; omega) ?_
  by_cases ha : x.a = 1
  · exact Or.inl ha
  · exact Or.inr ⟨f.held ha, by have := f.n ha; omega⟩


/-- steps that are fine, one after the other -/
def okS (p s : Int) : Int → Int → List Tri → Prop
  | _, _, [] => True
  | h, n, x :: r => Fine p s h n x ∧ (if x.a = 1 then okS p s x.b n r else okS p s h (n + 1) r)
def worksOf (l : List Tri) : List Tri := (l.filter fun x => decide (x.a ≠ 1)).map workOf

theorem worksOf_cons1 {x : Tri} {l : List Tri} (h : x.a = 1) : worksOf (x :: l) = worksOf l := by simp [worksOf, h]
theorem worksOf_cons2 {x : Tri} {l : List Tri} (h : x.a ≠ 1) : worksOf (x :: l) = workOf x :: worksOf l := by simp [worksOf, h]
theorem worksOf_append (a b : List Tri) : worksOf (a ++ b) = worksOf a ++ worksOf b := by simp [worksOf]

theorem finS_ok {p s : Int} : ∀ (r pre : List Tri) (h : Int), stS (pre ++ r) pre.length = (h, worksOf pre) → okS p s h (worksOf pre).length r → finS p s (pre ++ r) r.length pre.length = (p, worksOf (pre ++ r), 0, 0)
  | [], pre, h, hs, _ => by
    rw [List.append_nil] at hs ⊢
    rw [List.length_nil, finS, hs]
  | x :: r, pre, h, hs, hok => by
    have hk : pre.length < (pre ++ x :: r).length := by simp
    have hx : (pre ++ x :: r)[pre.length] = x := by simp
    have hl : (pre ++ x :: r).length - pre.length = (x :: r).length := by simp
    have e : pre ++ x :: r = (pre ++ [x]) ++ r := by simp
    unfold okS at hok
    have hd := fine_doE hok.1
    rw [← hl, finS_step hk hs (by rw [hx]; exact hd)]
    by_cases ha : x.a = 1
    · have hs2 := stS_reach hk hs (by rw [hx]; exact ha)
      rw [hx] at hs2
      have hw : worksOf (pre ++ [x]) = worksOf pre := by rw [worksOf_append, worksOf_cons1 ha]; simp [worksOf]
      have h2 := hok.2
      rw [if_pos ha] at h2
      have := finS_ok r (pre ++ [x]) x.b (by rw [← e, hw, List.length_append]; exact hs2) (by rw [hw]; exact h2)
      rw [← e, List.length_append] at this
      rw [show (pre ++ x :: r).length - (pre.length + 1) = r.length by simp; omega]
      exact this
    · have hs2 := stS_work hk hs (by rw [hx]; exact ha)
      rw [hx] at hs2
      have hw : worksOf (pre ++ [x]) = worksOf pre ++ [workOf x] := by rw [worksOf_append, worksOf_cons2 ha]; simp [worksOf]
      have h2 := hok.2
      rw [if_neg ha] at h2
      have := finS_ok r (pre ++ [x]) h (by rw [← e, hw, List.length_append]; exact hs2) (by rw [hw]; simpa using h2)
      rw [← e, List.length_append] at this
      rw [show (pre ++ x :: r).length - (pre.length + 1) = r.length by simp; omega]
      exact this
theorem sheetR_ok {p s : Int} {l : List Tri} (hh : handsE p s = 0) (hl : l.length ≤ 1000) (hok : okS p s (-1) 0 l) : sheetR p s l = (p, worksOf l, 0, 0) := by
  unfold sheetR
  rw [if_neg (by simp [hh]), if_neg (by omega)]
  exact finS_ok l [] (-1) rfl hok

/-- what is made if nothing is wrong -/
theorem finS_inv {p s : Int} : ∀ (r pre : List Tri) (h : Int) (R : Int × List Tri × Int × Int), stS (pre ++ r) pre.length = (h, worksOf pre) → finS p s (pre ++ r) r.length pre.length = R → R.2.2.2 = 0 → okS p s h (worksOf pre).length r
  | [], pre, h, R, hs, hR, h0 => trivial
  | x :: r, pre, h, R, hs, hR, h0 => by
    have hk : pre.length < (pre ++ x :: r).length := by simp
    have hx : (pre ++ x :: r)[pre.length] = x := by simp
    have hl : (pre ++ x :: r).length - pre.length = (x :: r).length := by simp
    have e : pre ++ x :: r = (pre ++ [x]) ++ r := by simp
    rw [← hl] at hR
    by_cases hd : doE p s h (worksOf pre).length x = 0
    · rw [finS_step hk hs (by rw [hx]; exact hd), show (pre ++ x :: r).length - (pre.length + 1) = r.length by simp; omega] at hR
      unfold okS
      refine ⟨fine_of hd, ?_⟩
      by_cases ha : x.a = 1
      · have hs2 := stS_reach hk hs (by rw [hx]; exact ha)
        rw [hx] at hs2
        have hw : worksOf (pre ++ [x]) = worksOf pre := by rw [worksOf_append, worksOf_cons1 ha]; simp [worksOf]
        have := finS_inv r (pre ++ [x]) x.b R (by rw [← e, hw, List.length_append]; exact hs2) (by rw [← e, List.length_append]; exact hR) h0
        rw [if_pos ha]
        rw [hw] at this
        exact this
      · have hs2 := stS_work hk hs (by rw [hx]; exact ha)
        rw [hx] at hs2
        have hw : worksOf (pre ++ [x]) = worksOf pre ++ [workOf x] := by rw [worksOf_append, worksOf_cons2 ha]; simp [worksOf]
        have := finS_inv r (pre ++ [x]) h R (by rw [← e, hw, List.length_append]; exact hs2) (by rw [← e, List.length_append]; exact hR) h0
        rw [if_neg ha]
        rw [hw] at this
        simpa using this
    · rw [finS_bad hk hs (by rw [hx]) hd] at hR
      rw [← hR] at h0
      exact absurd h0 hd
theorem sheetR_inv {p s : Int} {l : List Tri} (h0 : (sheetR p s l).2.2.2 = 0) : handsE p s = 0 ∧ l.length ≤ 1000 ∧ okS p s (-1) 0 l ∧ sheetR p s l = (p, worksOf l, 0, 0) := by
  have hh : handsE p s = 0 := Classical.byContradiction fun hh => by
    unfold sheetR at h0
    rw [if_pos hh] at h0
    exact hh h0
  have hl : l.length ≤ 1000 := Classical.byContradiction fun hl => by
    unfold sheetR at h0
    rw [if_neg (by simp [hh]), if_pos (by omega)] at h0
    cases h0
  have hok : okS p s (-1) 0 l := by
    unfold sheetR at h0
    rw [if_neg (by simp [hh]), if_neg (by omega)] at h0
    exact finS_inv l [] (-1) _ rfl rfl h0
  exact ⟨hh, hl, hok, sheetR_ok hh hl hok⟩
end Go.Proofs.YtmfklcnocekdlaaGreatDoor

namespace Go.Proofs.YtmfklcnocekdlaaGreatDoor
open Go Go.RowKit Tor


/-- what Sheet gives -/
def SheetPost (p s : Int) (l : List Tri) (w : World) (e : Ending) (w' : World) : Prop :=
  ∃ v, e = .returned (.tuple #[.agg #[.int .i64 (sheetR p s l).1, v], .int .i64 (sheetR p s l).2.2.1, .int .i64 (sheetR p s l).2.2.2]) ∧ Own 3 Tri.enc w' w.heap.size 79 v (sheetR p s l).2.1 ∧ Below w.heap.size w w'
theorem sheetPost_bad {p s : Int} {l : List Tri} {w w' : World} {i e : Int} (h : sheetR p s l = (0, [], i, e)) (hB : Below w.heap.size w w') : SheetPost p s l w (.returned (.tuple #[.agg #[.int .i64 0, .slice none 0 0], .int .i64 i, .int .i64 e])) w' := by
  unfold SheetPost
  rw [h]
  exact ⟨.slice none 0 0, rfl, Own.nil _ _ _, hB⟩
theorem sheetR_hands {p s : Int} {l : List Tri} (h : handsE p s ≠ 0) : sheetR p s l = (0, [], 0, handsE p s) := by unfold sheetR; rw [if_pos h]
theorem sheetR_long {p s : Int} {l : List Tri} (h : handsE p s = 0) (hl : 1000 < l.length) : sheetR p s l = (0, [], 0, 3) := by unfold sheetR; rw [if_neg (by simp [h]), if_pos hl]
theorem sheetR_fin {p s : Int} {l : List Tri} (h : handsE p s = 0) (hl : ¬ 1000 < l.length) : sheetR p s l = finS p s l (l.length - 0) 0 := by unfold sheetR; rw [if_neg (by simp [h]), if_neg hl]; rfl
theorem hands_bd {p s : Int} (h : handsE p s = 0) : 2 ≤ p ∧ p ≤ 24 ∧ 2 ≤ s ∧ s ≤ 8 ∧ s ≤ p := by
  unfold handsE at h
  split at h
  · rename_i h1
    have := h1.2.2
    unfold spansB at this
    simp only [Bool.and_eq_true, decide_eq_true_eq] at this
    omega
  · cases h

theorem sheet_ret {fn : Func} {p u v : Tmp} (h : fn.results = #[.cell p 33, .tmp u, .tmp v]) {R : Ending → World → Prop} {a : Act} {w : World} {g : Nat} {x y : Value} (hp : a.tmps.getD p undef = .pointer (some ⟨g, 0, none⟩))
    (hb : Blk w g 33 #[x, y]) (hd : a.defers = []) (hR : R (.returned (.tuple #[.agg #[x, y], a.tmps.getD u undef, a.tmps.getD v undef])) w) : bodyPost Tryz.prog fn R .ret a w := by
  refine bodyPost_ret (v := .tuple #[.agg #[x, y], a.tmps.getD u undef, a.tmps.getD v undef]) ?_ hd hR
  have c0 := hb.cell 0 x rfl
  have c1 := hb.cell 1 y rfl
  have hp' : a.tmps[p]?.getD undef = .pointer (some ⟨g, 0, none⟩) := by simpa using hp
  simp only [results, h]
  simp [Sem.run_bind, Result.andThen, hp']
  go_simp


end Go.Proofs.YtmfklcnocekdlaaGreatDoor

namespace Go.Proofs.YtmfklcnocekdlaaGreatDoor
open Go Go.RowKit Tor

/-- where the program says that the hands lie -/
def hv (s h : Int) : Int := if h < 0 then -s else h

theorem hv_held {s h b : Int} (hh : -1 ≤ h) (hs : 2 ≤ s) (hb : 0 ≤ b) : heldB h s b = true ↔ hv s h ≤ b ∧ b + 1 < hv s h + s := by
  rw [held_iff]
  unfold hv
  split <;> omega


set_option maxRecDepth 100000 in
set_option maxHeartbeats 4000000 in
theorem csheet_any (p s : Int) (A : Option Addr) (l : List Tri) (c : Nat) (w : World) (H : Nat) (hr : RdT w H A l) (hH : H ≤ w.heap.size)
    (hw : ∀ (k : Nat) (hk : k < l.length), l[k].s.size ≤ 9223372036854775807) (hl : l.length ≤ 100000) :
    Calls Tryz.prog 119 #[.int .i64 p, .int .i64 s, .slice A l.length c] w (SheetPost p s l w) := by
  obtain ⟨i0, hi0, hz0', hz1', hz2'⟩ := info_parts infoWork
  have HW := Lib.hid hw
  clear hw
  rcases (show p < 2 ∨ (¬ p < 2 ∧ 24 < p) ∨ (¬ p < 2 ∧ ¬ 24 < p ∧ spansB p s = false) ∨ (¬ p < 2 ∧ ¬ 24 < p ∧ spansB p s = true) from by
    cases spansB p s <;> simp <;> omega) with h1 | ⟨h1, h2⟩ | ⟨h1, h2, h3⟩ | ⟨h1, h2, h3⟩
  · have HR := Lib.hid (sheetR_hands (p := p) (s := s) (l := l) (by unfold handsE; rw [if_neg (by omega)]; decide))
    have HE := Lib.hid (show handsE p s = 7 by unfold handsE; rw [if_neg (by omega)])
    go_enter Tryz.func119, Tryz.ntmps119
    go_wp2_with fail
    (try simp only [Exit.inBlock, Exit.then])
    have kR := Blk.new w 33 #[.int .i64 0, .slice none 0 0]
    refine sheet_ret rfl rfl (g := w.heap.size) (x := .int .i64 0) (y := .slice none 0 0) (by simpa using kR) rfl ?_
    exact sheetPost_bad (by rw [HR.out, HE.out]) (by (repeat' first | assumption | exact Below.refl _ _ | apply Below.drew | (refine Below.setCells ?_ _ _ ?_) | (refine Below.setCell ?_ ?_ _) | (refine Below.alloc ?_ ?_ _) | (simp; done) | (simp; omega)))
  · have HR := Lib.hid (sheetR_hands (p := p) (s := s) (l := l) (by unfold handsE; rw [if_neg (by omega)]; decide))
    have HE := Lib.hid (show handsE p s = 7 by unfold handsE; rw [if_neg (by omega)])
    go_enter Tryz.func119, Tryz.ntmps119
    go_wp2_with fail
    (try simp only [Exit.inBlock, Exit.then])
    have kR := Blk.new w 33 #[.int .i64 0, .slice none 0 0]
    refine sheet_ret rfl rfl (g := w.heap.size) (x := .int .i64 0) (y := .slice none 0 0) (by simpa using kR) rfl ?_
    exact sheetPost_bad (by rw [HR.out, HE.out]) (by (repeat' first | assumption | exact Below.refl _ _ | apply Below.drew | (refine Below.setCells ?_ _ _ ?_) | (refine Below.setCell ?_ ?_ _) | (refine Below.alloc ?_ ?_ _) | (simp; done) | (simp; omega)))
  · have HR := Lib.hid (sheetR_hands (p := p) (s := s) (l := l) (by unfold handsE; rw [if_neg (by simp [h3])]; decide))
    have HE := Lib.hid (show handsE p s = 7 by unfold handsE; rw [if_neg (by simp [h3])])
    have HSP := Lib.hid h3
    clear h3
    go_enter Tryz.func119, Tryz.ntmps119
    go_wp2_with (first
          | (go_at_call 83; refine (cspans_any p s _).mono ?_; rintro e w1 ⟨rfl, hB1⟩; rw [HSP.out]
             have kR := (Blk.new w 33 #[.int .i64 0, .slice none 0 0]).below' hB1
             have c0 := kR.cell 0 _ rfl
             have c1 := kR.cell 1 _ rfl
             have f0 := kR.frozen 0
             have f1 := kR.frozen 1
             have n1 := kR.lt
             have hBw : Below w.heap.size w w1 := Below.trans (b := w.alloc (.cells #[.int .i64 0, .slice none 0 0] 33)) (by (repeat' first | exact Below.refl _ _ | apply Below.drew | (refine Below.setCells ?_ _ _ ?_) | (refine Below.setCell ?_ ?_ _) | (refine Below.alloc ?_ ?_ _) | (simp; done) | (simp; omega))) (hB1.mono (by simp)))
          | fail)
    (try simp only [Exit.inBlock, Exit.then])
    refine sheet_ret rfl rfl (g := w.heap.size) (x := .int .i64 0) (y := .slice none 0 0) (by simpa using (kR.set_ 0 (.int .i64 0)).set_ 1 (.slice none 0 0)) rfl ?_
    exact sheetPost_bad (by rw [HR.out, HE.out]) (by (repeat' first | assumption | exact Below.refl _ _ | apply Below.drew | (refine Below.setCells ?_ _ _ ?_) | (refine Below.setCell ?_ ?_ _) | (refine Below.alloc ?_ ?_ _) | (simp; done) | (simp; omega)))
  · have hh : handsE p s = 0 := by unfold handsE; rw [if_pos ⟨by omega, by omega, h3⟩]
    have hbd := hands_bd hh
    have HSP := Lib.hid h3
    clear h3
    by_cases hlong : 1000 < l.length
    · have HR := Lib.hid (sheetR_long hh hlong)
      have hl' : (1000 : Int) < (l.length : Int) := by omega
      clear hh
      go_enter Tryz.func119, Tryz.ntmps119
      go_wp2_with (first
        | (go_at_call 83; refine (cspans_any p s _).mono ?_; rintro e w1 ⟨rfl, hB1⟩; rw [HSP.out]
           have kR := (Blk.new w 33 #[.int .i64 0, .slice none 0 0]).below' hB1
           have c0 := kR.cell 0 _ rfl
           have c1 := kR.cell 1 _ rfl
           have f0 := kR.frozen 0
           have f1 := kR.frozen 1
           have n1 := kR.lt
           have hBw : Below w.heap.size w w1 := Below.trans (b := w.alloc (.cells #[.int .i64 0, .slice none 0 0] 33)) (by (repeat' first | exact Below.refl _ _ | apply Below.drew | (refine Below.setCells ?_ _ _ ?_) | (refine Below.setCell ?_ ?_ _) | (refine Below.alloc ?_ ?_ _) | (simp; done) | (simp; omega))) (hB1.mono (by simp)))
        | fail)
      (try simp only [Exit.inBlock, Exit.then])
      refine sheet_ret rfl rfl (g := w.heap.size) (x := .int .i64 0) (y := .slice none 0 0) (by simpa using (kR.set_ 0 (.int .i64 0)).set_ 1 (.slice none 0 0)) rfl ?_
      exact sheetPost_bad HR.out (by (repeat' first | assumption | exact Below.refl _ _ | apply Below.drew | (refine Below.setCells ?_ _ _ ?_) | (refine Below.setCell ?_ ?_ _) | (refine Below.alloc ?_ ?_ _) | (simp; done) | (simp; omega)))
    · have HR := Lib.hid (sheetR_fin hh hlong)
      have hl' : ¬ (1000 : Int) < (l.length : Int) := by omega
      have hl'' : l.length ≤ 1000 := by omega
      clear hh hlong
      go_enter Tryz.func119, Tryz.ntmps119
      go_wp2_with (first
        | (go_at_call 83; refine (cspans_any p s _).mono ?_; rintro e w1 ⟨rfl, hB1⟩; rw [HSP.out]
           have kR := (Blk.new w 33 #[.int .i64 0, .slice none 0 0]).below' hB1
           have c0 := kR.cell 0 _ rfl
           have c1 := kR.cell 1 _ rfl
           have f0 := kR.frozen 0
           have f1 := kR.frozen 1
           have n1 := kR.lt
           have hBw : Below w.heap.size w w1 := Below.trans (b := w.alloc (.cells #[.int .i64 0, .slice none 0 0] 33)) (by (repeat' first | exact Below.refl _ _ | apply Below.drew | (refine Below.setCells ?_ _ _ ?_) | (refine Below.setCell ?_ ?_ _) | (refine Below.alloc ?_ ?_ _) | (simp; done) | (simp; omega))) (hB1.mono (by simp)))
        | fail)
      go_loopw [9, 10, 36] (fun hd mv k wr => ∃ (j : Nat) (h : Int) (d : List Tri), j ≤ l.length ∧ k = .int .i64 j ∧ hd = .int .i64 (hv s h) ∧ -1 ≤ h ∧ h ≤ 24 ∧ d.length ≤ 400 ∧ Hid (stS l j = (h, d)) ∧ Hid (sheetR p s l = finS p s l (l.length - j) j) ∧
        Blk wr w.heap.size 33 #[.int .i64 0, .slice none 0 0] ∧ Own 3 Tri.enc wr (w.heap.size + 1) 79 mv d ∧ Below w.heap.size w wr) (fun _ _ k _ => l.length - (intOf k).toNat)
      case atStart =>
        exact ⟨0, -1, [], Nat.zero_le _, rfl, by simp [hv], by omega, by omega, by simp, rfl, HR, kR, Own.nil _ _ _, hBw⟩
      case round =>
        obtain ⟨j, h, d, hj, rfl, rfl, hh1, hh2, hdl, hst, hinv, hR, hown, hB⟩ := hrel
        obtain ⟨Av, cv, rfl, hcv, hrd⟩ := Own.rd tri_len hown
        have hz := hB.size
        have hrl := hR.lt
        obtain ⟨V, hV⟩ : ∃ V, Hid (hv s h = V) := ⟨_, Lib.hid rfl⟩
        rw [hV.out]
        have hVb : -8 ≤ V ∧ V ≤ 24 := by rw [← hV.out]; unfold hv; split <;> omega
        by_cases hlt : j < l.length
        · obtain ⟨b, o, rfl, hb0, h0, h1', h2'⟩ := (hr.below' hB hH).tri hlt
          have hbb := lt_of_cell h0
          have k0 : (0 : Int) ≤ (j : Int) := by omega
          have k1 : (j : Int) < (l.length : Int) := by omega
          have HWj := Lib.hid (HW.out j hlt)
          cases hsh : shapedB l[j]
          · have HS := Lib.hid hsh
            have hfin := Lib.hid (finS_bad hlt hst.out (doE_sh (p := p) (s := s) (h := h) (n := d.length) hsh) (by decide))
            have HE := HS
            clear hsh
            go_wp2_with (first
          | (go_at_call 28; refine (cshaped_any l[j] _).mono ?_; rintro e w2 ⟨rfl, hB2⟩; rw [HS.out]
             have kX := (Blk.new wr 52 #[.int .i64 l[j].a, .int .i64 l[j].b, .string l[j].s]).below' hB2
             have hq2 : Below wr.heap.size wr w2 := Below.trans (b := wr.alloc (.cells #[.int .i64 l[j].a, .int .i64 l[j].b, .string l[j].s] 52)) (by (repeat' first | exact Below.refl _ _ | apply Below.drew | (refine Below.setCells ?_ _ _ ?_) | (refine Below.setCell ?_ ?_ _) | (refine Below.alloc ?_ ?_ _) | (simp; done) | (simp; omega))) (hB2.mono (by simp))
             have kR := hR.below' hq2
             have a0 := kX.cell 0 _ rfl
             have a1 := kX.cell 1 _ rfl
             have a2 := kX.cell 2 _ rfl
             have a3 := kX.lt
             have r0 := kR.cell 0 _ rfl
             have r1 := kR.cell 1 _ rfl
             have q0 := kR.frozen 0
             have q1 := kR.frozen 1
             have rl := kR.lt)
          | (go_at_call 30; refine (word_any l[j].s _ HWj.out).mono ?_; rintro e w3 ⟨rfl, hB3⟩; rw [HE.out]
             have kX3 := kX.below' hB3
             have hq3 : Below wr.heap.size wr w3 := hq2.trans (hB3.mono hq2.size)
             have kR3 := hR.below' hq3
             have b0' := kX3.cell 0 _ rfl
             have b1' := kX3.cell 1 _ rfl
             have b2' := kX3.cell 2 _ rfl
             have b3' := kX3.lt
             have r0' := kR3.cell 0 _ rfl
             have r1' := kR3.cell 1 _ rfl
             have q0' := kR3.frozen 0
             have q1' := kR3.frozen 1
             have rl' := kR3.lt
             have hown3 := hown.below hq3
             have hz3 := hq3.size)
          | (at_builtin; refine wpList_append_tri rfl (.tmp 57) (.tmp 63) _ rfl (w.heap.size + 1) _ i0 _ Tryz.underlying31 hi0 hz0' hz1' hz2' rfl _ d rfl (hown3.alloc _) w3.heap.size (workOf l[j]) rfl (World.cell?_alloc_new _ _ _ 0) (World.cell?_alloc_new _ _ _ 1) (World.cell?_alloc_new _ _ _ 2) (by omega) (by simp; omega) ?_; intro v8 w8 hown8 hg8))
            (try simp only [Exit.inBlock, Exit.then])
            refine sheet_ret rfl rfl (g := w.heap.size) (x := .int .i64 0) (y := .slice none 0 0) (by simpa using (kR.set_ 0 (.int .i64 0)).set_ 1 (.slice none 0 0)) rfl ?_
            have hBf := hB.trans (hq2.mono hz)
            exact sheetPost_bad (by rw [hinv.out, hfin.out]) (by (repeat' first | assumption | exact Below.refl _ _ | apply Below.drew | (refine Below.setCells ?_ _ _ ?_) | (refine Below.setCell ?_ ?_ _) | (refine Below.alloc ?_ ?_ _) | (simp; done) | (simp; omega)))
          · by_cases hw0 : wordE l[j].s = 0
            · have HE := Lib.hid hw0
              have HS := Lib.hid hsh
              rcases (show (l[j].b < 0) ∨ (¬ l[j].b < 0 ∧ p - 2 < l[j].b) ∨ (¬ l[j].b < 0 ∧ ¬ p - 2 < l[j].b ∧ l[j].a = 1 ∧ p - s < l[j].b) ∨ (¬ l[j].b < 0 ∧ ¬ p - 2 < l[j].b ∧ l[j].a = 1 ∧ ¬ p - s < l[j].b) ∨
                (¬ l[j].b < 0 ∧ ¬ p - 2 < l[j].b ∧ l[j].a ≠ 1 ∧ l[j].b < V) ∨ (¬ l[j].b < 0 ∧ ¬ p - 2 < l[j].b ∧ l[j].a ≠ 1 ∧ ¬ l[j].b < V ∧ V + s ≤ l[j].b + 1) ∨
                (¬ l[j].b < 0 ∧ ¬ p - 2 < l[j].b ∧ l[j].a ≠ 1 ∧ ¬ l[j].b < V ∧ ¬ V + s ≤ l[j].b + 1 ∧ (d.length : Int) = 400) ∨
                (¬ l[j].b < 0 ∧ ¬ p - 2 < l[j].b ∧ l[j].a ≠ 1 ∧ ¬ l[j].b < V ∧ ¬ V + s ≤ l[j].b + 1 ∧ ¬ (d.length : Int) = 400 ∧ l[j].a = 3) ∨
                (¬ l[j].b < 0 ∧ ¬ p - 2 < l[j].b ∧ l[j].a ≠ 1 ∧ ¬ l[j].b < V ∧ ¬ V + s ≤ l[j].b + 1 ∧ ¬ (d.length : Int) = 400 ∧ l[j].a ≠ 3) from by omega) with
                  x1 | ⟨x1, x2⟩ | ⟨x1, x2, x3, x4⟩ | ⟨x1, x2, x3, x4⟩ | ⟨x1, x2, x3, x4⟩ | ⟨x1, x2, x3, x4, x5⟩ | ⟨x1, x2, x3, x4, x5, x6⟩ | ⟨x1, x2, x3, x4, x5, x6, x7⟩ | ⟨x1, x2, x3, x4, x5, x6, x7⟩
              · have hfin := Lib.hid (finS_bad hlt hst.out (doE_r (p := p) (s := s) (h := h) (n := d.length) hsh hw0 (by omega)) (by decide))
                clear hsh hw0
                go_wp2_with (first
              | (go_at_call 28; refine (cshaped_any l[j] _).mono ?_; rintro e w2 ⟨rfl, hB2⟩; rw [HS.out]
                 have kX := (Blk.new wr 52 #[.int .i64 l[j].a, .int .i64 l[j].b, .string l[j].s]).below' hB2
                 have hq2 : Below wr.heap.size wr w2 := Below.trans (b := wr.alloc (.cells #[.int .i64 l[j].a, .int .i64 l[j].b, .string l[j].s] 52)) (by (repeat' first | exact Below.refl _ _ | apply Below.drew | (refine Below.setCells ?_ _ _ ?_) | (refine Below.setCell ?_ ?_ _) | (refine Below.alloc ?_ ?_ _) | (simp; done) | (simp; omega))) (hB2.mono (by simp))
                 have kR := hR.below' hq2
                 have a0 := kX.cell 0 _ rfl
                 have a1 := kX.cell 1 _ rfl
                 have a2 := kX.cell 2 _ rfl
                 have a3 := kX.lt
                 have r0 := kR.cell 0 _ rfl
                 have r1 := kR.cell 1 _ rfl
                 have q0 := kR.frozen 0
                 have q1 := kR.frozen 1
                 have rl := kR.lt)
              | (go_at_call 30; refine (word_any l[j].s _ HWj.out).mono ?_; rintro e w3 ⟨rfl, hB3⟩; rw [HE.out]
                 have kX3 := kX.below' hB3
                 have hq3 : Below wr.heap.size wr w3 := hq2.trans (hB3.mono hq2.size)
                 have kR3 := hR.below' hq3
                 have b0' := kX3.cell 0 _ rfl
                 have b1' := kX3.cell 1 _ rfl
                 have b2' := kX3.cell 2 _ rfl
                 have b3' := kX3.lt
                 have r0' := kR3.cell 0 _ rfl
                 have r1' := kR3.cell 1 _ rfl
                 have q0' := kR3.frozen 0
                 have q1' := kR3.frozen 1
                 have rl' := kR3.lt
                 have hown3 := hown.below hq3
                 have hz3 := hq3.size)
              | (at_builtin; refine wpList_append_tri rfl (.tmp 57) (.tmp 63) _ rfl (w.heap.size + 1) _ i0 _ Tryz.underlying31 hi0 hz0' hz1' hz2' rfl _ d rfl (hown3.alloc _) w3.heap.size (workOf l[j]) rfl (World.cell?_alloc_new _ _ _ 0) (World.cell?_alloc_new _ _ _ 1) (World.cell?_alloc_new _ _ _ 2) (by omega) (by simp; omega) ?_; intro v8 w8 hown8 hg8))
                (try simp only [Exit.inBlock, Exit.then])
                refine sheet_ret rfl rfl (g := w.heap.size) (x := .int .i64 0) (y := .slice none 0 0) (by simpa using (kR3.set_ 0 (.int .i64 0)).set_ 1 (.slice none 0 0)) rfl ?_
                have hBf := hB.trans (hq3.mono hz)
                exact sheetPost_bad (by rw [hinv.out, hfin.out]) (by (repeat' first | assumption | exact Below.refl _ _ | apply Below.drew | (refine Below.setCells ?_ _ _ ?_) | (refine Below.setCell ?_ ?_ _) | (refine Below.alloc ?_ ?_ _) | (simp; done) | (simp; omega)))
              · have hfin := Lib.hid (finS_bad hlt hst.out (doE_r (p := p) (s := s) (h := h) (n := d.length) hsh hw0 (by omega)) (by decide))
                clear hsh hw0
                go_wp2_with (first
              | (go_at_call 28; refine (cshaped_any l[j] _).mono ?_; rintro e w2 ⟨rfl, hB2⟩; rw [HS.out]
                 have kX := (Blk.new wr 52 #[.int .i64 l[j].a, .int .i64 l[j].b, .string l[j].s]).below' hB2
                 have hq2 : Below wr.heap.size wr w2 := Below.trans (b := wr.alloc (.cells #[.int .i64 l[j].a, .int .i64 l[j].b, .string l[j].s] 52)) (by (repeat' first | exact Below.refl _ _ | apply Below.drew | (refine Below.setCells ?_ _ _ ?_) | (refine Below.setCell ?_ ?_ _) | (refine Below.alloc ?_ ?_ _) | (simp; done) | (simp; omega))) (hB2.mono (by simp))
                 have kR := hR.below' hq2
                 have a0 := kX.cell 0 _ rfl
                 have a1 := kX.cell 1 _ rfl
                 have a2 := kX.cell 2 _ rfl
                 have a3 := kX.lt
                 have r0 := kR.cell 0 _ rfl
                 have r1 := kR.cell 1 _ rfl
                 have q0 := kR.frozen 0
                 have q1 := kR.frozen 1
                 have rl := kR.lt)
              | (go_at_call 30; refine (word_any l[j].s _ HWj.out).mono ?_; rintro e w3 ⟨rfl, hB3⟩; rw [HE.out]
                 have kX3 := kX.below' hB3
                 have hq3 : Below wr.heap.size wr w3 := hq2.trans (hB3.mono hq2.size)
                 have kR3 := hR.below' hq3
                 have b0' := kX3.cell 0 _ rfl
                 have b1' := kX3.cell 1 _ rfl
                 have b2' := kX3.cell 2 _ rfl
                 have b3' := kX3.lt
                 have r0' := kR3.cell 0 _ rfl
                 have r1' := kR3.cell 1 _ rfl
                 have q0' := kR3.frozen 0
                 have q1' := kR3.frozen 1
                 have rl' := kR3.lt
                 have hown3 := hown.below hq3
                 have hz3 := hq3.size)
              | (at_builtin; refine wpList_append_tri rfl (.tmp 57) (.tmp 63) _ rfl (w.heap.size + 1) _ i0 _ Tryz.underlying31 hi0 hz0' hz1' hz2' rfl _ d rfl (hown3.alloc _) w3.heap.size (workOf l[j]) rfl (World.cell?_alloc_new _ _ _ 0) (World.cell?_alloc_new _ _ _ 1) (World.cell?_alloc_new _ _ _ 2) (by omega) (by simp; omega) ?_; intro v8 w8 hown8 hg8))
                (try simp only [Exit.inBlock, Exit.then])
                refine sheet_ret rfl rfl (g := w.heap.size) (x := .int .i64 0) (y := .slice none 0 0) (by simpa using (kR3.set_ 0 (.int .i64 0)).set_ 1 (.slice none 0 0)) rfl ?_
                have hBf := hB.trans (hq3.mono hz)
                exact sheetPost_bad (by rw [hinv.out, hfin.out]) (by (repeat' first | assumption | exact Below.refl _ _ | apply Below.drew | (refine Below.setCells ?_ _ _ ?_) | (refine Below.setCell ?_ ?_ _) | (refine Below.alloc ?_ ?_ _) | (simp; done) | (simp; omega)))
              · have hfin := Lib.hid (finS_bad hlt hst.out (doE_r (p := p) (s := s) (h := h) (n := d.length) hsh hw0 (by omega)) (by decide))
                have t3 : (l[j].a == 1) = true := by simp [x3]
                clear hsh hw0 x3
                go_wp2_with (first
              | (go_at_call 28; refine (cshaped_any l[j] _).mono ?_; rintro e w2 ⟨rfl, hB2⟩; rw [HS.out]
                 have kX := (Blk.new wr 52 #[.int .i64 l[j].a, .int .i64 l[j].b, .string l[j].s]).below' hB2
                 have hq2 : Below wr.heap.size wr w2 := Below.trans (b := wr.alloc (.cells #[.int .i64 l[j].a, .int .i64 l[j].b, .string l[j].s] 52)) (by (repeat' first | exact Below.refl _ _ | apply Below.drew | (refine Below.setCells ?_ _ _ ?_) | (refine Below.setCell ?_ ?_ _) | (refine Below.alloc ?_ ?_ _) | (simp; done) | (simp; omega))) (hB2.mono (by simp))
                 have kR := hR.below' hq2
                 have a0 := kX.cell 0 _ rfl
                 have a1 := kX.cell 1 _ rfl
                 have a2 := kX.cell 2 _ rfl
                 have a3 := kX.lt
                 have r0 := kR.cell 0 _ rfl
                 have r1 := kR.cell 1 _ rfl
                 have q0 := kR.frozen 0
                 have q1 := kR.frozen 1
                 have rl := kR.lt)
              | (go_at_call 30; refine (word_any l[j].s _ HWj.out).mono ?_; rintro e w3 ⟨rfl, hB3⟩; rw [HE.out]
                 have kX3 := kX.below' hB3
                 have hq3 : Below wr.heap.size wr w3 := hq2.trans (hB3.mono hq2.size)
                 have kR3 := hR.below' hq3
                 have b0' := kX3.cell 0 _ rfl
                 have b1' := kX3.cell 1 _ rfl
                 have b2' := kX3.cell 2 _ rfl
                 have b3' := kX3.lt
                 have r0' := kR3.cell 0 _ rfl
                 have r1' := kR3.cell 1 _ rfl
                 have q0' := kR3.frozen 0
                 have q1' := kR3.frozen 1
                 have rl' := kR3.lt
                 have hown3 := hown.below hq3
                 have hz3 := hq3.size)
              | (at_builtin; refine wpList_append_tri rfl (.tmp 57) (.tmp 63) _ rfl (w.heap.size + 1) _ i0 _ Tryz.underlying31 hi0 hz0' hz1' hz2' rfl _ d rfl (hown3.alloc _) w3.heap.size (workOf l[j]) rfl (World.cell?_alloc_new _ _ _ 0) (World.cell?_alloc_new _ _ _ 1) (World.cell?_alloc_new _ _ _ 2) (by omega) (by simp; omega) ?_; intro v8 w8 hown8 hg8))
                (try simp only [Exit.inBlock, Exit.then])
                refine sheet_ret rfl rfl (g := w.heap.size) (x := .int .i64 0) (y := .slice none 0 0) (by simpa using (kR3.set_ 0 (.int .i64 0)).set_ 1 (.slice none 0 0)) rfl ?_
                have hBf := hB.trans (hq3.mono hz)
                exact sheetPost_bad (by rw [hinv.out, hfin.out]) (by (repeat' first | assumption | exact Below.refl _ _ | apply Below.drew | (refine Below.setCells ?_ _ _ ?_) | (refine Below.setCell ?_ ?_ _) | (refine Below.alloc ?_ ?_ _) | (simp; done) | (simp; omega)))
              · have hd0 := doE_0 (p := p) (s := s) (h := h) (n := d.length) hsh hw0 (by omega) (Or.inl x3)
                have hfin := Lib.hid (finS_step hlt hst.out hd0)
                have hst2 := Lib.hid (stS_reach hlt hst.out x3)
                have t3 : (l[j].a == 1) = true := by simp [x3]
                clear hsh hw0 x3 hd0
                go_wp2_with (first
              | (go_at_call 28; refine (cshaped_any l[j] _).mono ?_; rintro e w2 ⟨rfl, hB2⟩; rw [HS.out]
                 have kX := (Blk.new wr 52 #[.int .i64 l[j].a, .int .i64 l[j].b, .string l[j].s]).below' hB2
                 have hq2 : Below wr.heap.size wr w2 := Below.trans (b := wr.alloc (.cells #[.int .i64 l[j].a, .int .i64 l[j].b, .string l[j].s] 52)) (by (repeat' first | exact Below.refl _ _ | apply Below.drew | (refine Below.setCells ?_ _ _ ?_) | (refine Below.setCell ?_ ?_ _) | (refine Below.alloc ?_ ?_ _) | (simp; done) | (simp; omega))) (hB2.mono (by simp))
                 have kR := hR.below' hq2
                 have a0 := kX.cell 0 _ rfl
                 have a1 := kX.cell 1 _ rfl
                 have a2 := kX.cell 2 _ rfl
                 have a3 := kX.lt
                 have r0 := kR.cell 0 _ rfl
                 have r1 := kR.cell 1 _ rfl
                 have q0 := kR.frozen 0
                 have q1 := kR.frozen 1
                 have rl := kR.lt)
              | (go_at_call 30; refine (word_any l[j].s _ HWj.out).mono ?_; rintro e w3 ⟨rfl, hB3⟩; rw [HE.out]
                 have kX3 := kX.below' hB3
                 have hq3 : Below wr.heap.size wr w3 := hq2.trans (hB3.mono hq2.size)
                 have kR3 := hR.below' hq3
                 have b0' := kX3.cell 0 _ rfl
                 have b1' := kX3.cell 1 _ rfl
                 have b2' := kX3.cell 2 _ rfl
                 have b3' := kX3.lt
                 have r0' := kR3.cell 0 _ rfl
                 have r1' := kR3.cell 1 _ rfl
                 have q0' := kR3.frozen 0
                 have q1' := kR3.frozen 1
                 have rl' := kR3.lt
                 have hown3 := hown.below hq3
                 have hz3 := hq3.size)
              | (at_builtin; refine wpList_append_tri rfl (.tmp 57) (.tmp 63) _ rfl (w.heap.size + 1) _ i0 _ Tryz.underlying31 hi0 hz0' hz1' hz2' rfl _ d rfl (hown3.alloc _) w3.heap.size (workOf l[j]) rfl (World.cell?_alloc_new _ _ _ 0) (World.cell?_alloc_new _ _ _ 1) (World.cell?_alloc_new _ _ _ 2) (by omega) (by simp; omega) ?_; intro v8 w8 hown8 hg8))
                go_roundw
                case rel => exact ⟨j + 1, l[j].b, d, by omega, by go_num, by simp [hv]; omega, by omega, by omega, hdl, hst2, by rw [Hid, hinv.out, hfin.out], kR3, hown3, hB.trans (hq3.mono hz)⟩
                case measure => simp [intOf]; omega
              · have hheld : heldB h s l[j].b = false := by
                  cases hh : heldB h s l[j].b
                  · rfl
                  · rw [hv_held hh1 hbd.2.2.1 (by omega), hV.out] at hh; omega
                have hfin := Lib.hid (finS_bad hlt hst.out (doE_d (p := p) (s := s) (h := h) (n := d.length) hsh hw0 (by omega) x3 hheld) (by decide))
                have t3 : (l[j].a == 1) = false := by simp [x3]
                clear hsh hw0 x3 hheld
                go_wp2_with (first
              | (go_at_call 28; refine (cshaped_any l[j] _).mono ?_; rintro e w2 ⟨rfl, hB2⟩; rw [HS.out]
                 have kX := (Blk.new wr 52 #[.int .i64 l[j].a, .int .i64 l[j].b, .string l[j].s]).below' hB2
                 have hq2 : Below wr.heap.size wr w2 := Below.trans (b := wr.alloc (.cells #[.int .i64 l[j].a, .int .i64 l[j].b, .string l[j].s] 52)) (by (repeat' first | exact Below.refl _ _ | apply Below.drew | (refine Below.setCells ?_ _ _ ?_) | (refine Below.setCell ?_ ?_ _) | (refine Below.alloc ?_ ?_ _) | (simp; done) | (simp; omega))) (hB2.mono (by simp))
                 have kR := hR.below' hq2
                 have a0 := kX.cell 0 _ rfl
                 have a1 := kX.cell 1 _ rfl
                 have a2 := kX.cell 2 _ rfl
                 have a3 := kX.lt
                 have r0 := kR.cell 0 _ rfl
                 have r1 := kR.cell 1 _ rfl
                 have q0 := kR.frozen 0
                 have q1 := kR.frozen 1
                 have rl := kR.lt)
              | (go_at_call 30; refine (word_any l[j].s _ HWj.out).mono ?_; rintro e w3 ⟨rfl, hB3⟩; rw [HE.out]
                 have kX3 := kX.below' hB3
                 have hq3 : Below wr.heap.size wr w3 := hq2.trans (hB3.mono hq2.size)
                 have kR3 := hR.below' hq3
                 have b0' := kX3.cell 0 _ rfl
                 have b1' := kX3.cell 1 _ rfl
                 have b2' := kX3.cell 2 _ rfl
                 have b3' := kX3.lt
                 have r0' := kR3.cell 0 _ rfl
                 have r1' := kR3.cell 1 _ rfl
                 have q0' := kR3.frozen 0
                 have q1' := kR3.frozen 1
                 have rl' := kR3.lt
                 have hown3 := hown.below hq3
                 have hz3 := hq3.size)
              | (at_builtin; refine wpList_append_tri rfl (.tmp 57) (.tmp 63) _ rfl (w.heap.size + 1) _ i0 _ Tryz.underlying31 hi0 hz0' hz1' hz2' rfl _ d rfl (hown3.alloc _) w3.heap.size (workOf l[j]) rfl (World.cell?_alloc_new _ _ _ 0) (World.cell?_alloc_new _ _ _ 1) (World.cell?_alloc_new _ _ _ 2) (by omega) (by simp; omega) ?_; intro v8 w8 hown8 hg8))
                (try simp only [Exit.inBlock, Exit.then])
                refine sheet_ret rfl rfl (g := w.heap.size) (x := .int .i64 0) (y := .slice none 0 0) (by simpa using (kR3.set_ 0 (.int .i64 0)).set_ 1 (.slice none 0 0)) rfl ?_
                have hBf := hB.trans (hq3.mono hz)
                exact sheetPost_bad (by rw [hinv.out, hfin.out]) (by (repeat' first | assumption | exact Below.refl _ _ | apply Below.drew | (refine Below.setCells ?_ _ _ ?_) | (refine Below.setCell ?_ ?_ _) | (refine Below.alloc ?_ ?_ _) | (simp; done) | (simp; omega)))
              · have hheld : heldB h s l[j].b = false := by
                  cases hh : heldB h s l[j].b
                  · rfl
                  · rw [hv_held hh1 hbd.2.2.1 (by omega), hV.out] at hh; omega
                have hfin := Lib.hid (finS_bad hlt hst.out (doE_d (p := p) (s := s) (h := h) (n := d.length) hsh hw0 (by omega) x3 hheld) (by decide))
                have t3 : (l[j].a == 1) = false := by simp [x3]
                clear hsh hw0 x3 hheld
                go_wp2_with (first
              | (go_at_call 28; refine (cshaped_any l[j] _).mono ?_; rintro e w2 ⟨rfl, hB2⟩; rw [HS.out]
                 have kX := (Blk.new wr 52 #[.int .i64 l[j].a, .int .i64 l[j].b, .string l[j].s]).below' hB2
                 have hq2 : Below wr.heap.size wr w2 := Below.trans (b := wr.alloc (.cells #[.int .i64 l[j].a, .int .i64 l[j].b, .string l[j].s] 52)) (by (repeat' first | exact Below.refl _ _ | apply Below.drew | (refine Below.setCells ?_ _ _ ?_) | (refine Below.setCell ?_ ?_ _) | (refine Below.alloc ?_ ?_ _) | (simp; done) | (simp; omega))) (hB2.mono (by simp))
                 have kR := hR.below' hq2
                 have a0 := kX.cell 0 _ rfl
                 have a1 := kX.cell 1 _ rfl
                 have a2 := kX.cell 2 _ rfl
                 have a3 := kX.lt
                 have r0 := kR.cell 0 _ rfl
                 have r1 := kR.cell 1 _ rfl
                 have q0 := kR.frozen 0
                 have q1 := kR.frozen 1
                 have rl := kR.lt)
              | (go_at_call 30; refine (word_any l[j].s _ HWj.out).mono ?_; rintro e w3 ⟨rfl, hB3⟩; rw [HE.out]
                 have kX3 := kX.below' hB3
                 have hq3 : Below wr.heap.size wr w3 := hq2.trans (hB3.mono hq2.size)
                 have kR3 := hR.below' hq3
                 have b0' := kX3.cell 0 _ rfl
                 have b1' := kX3.cell 1 _ rfl
                 have b2' := kX3.cell 2 _ rfl
                 have b3' := kX3.lt
                 have r0' := kR3.cell 0 _ rfl
                 have r1' := kR3.cell 1 _ rfl
                 have q0' := kR3.frozen 0
                 have q1' := kR3.frozen 1
                 have rl' := kR3.lt
                 have hown3 := hown.below hq3
                 have hz3 := hq3.size)
              | (at_builtin; refine wpList_append_tri rfl (.tmp 57) (.tmp 63) _ rfl (w.heap.size + 1) _ i0 _ Tryz.underlying31 hi0 hz0' hz1' hz2' rfl _ d rfl (hown3.alloc _) w3.heap.size (workOf l[j]) rfl (World.cell?_alloc_new _ _ _ 0) (World.cell?_alloc_new _ _ _ 1) (World.cell?_alloc_new _ _ _ 2) (by omega) (by simp; omega) ?_; intro v8 w8 hown8 hg8))
                (try simp only [Exit.inBlock, Exit.then])
                refine sheet_ret rfl rfl (g := w.heap.size) (x := .int .i64 0) (y := .slice none 0 0) (by simpa using (kR3.set_ 0 (.int .i64 0)).set_ 1 (.slice none 0 0)) rfl ?_
                have hBf := hB.trans (hq3.mono hz)
                exact sheetPost_bad (by rw [hinv.out, hfin.out]) (by (repeat' first | assumption | exact Below.refl _ _ | apply Below.drew | (refine Below.setCells ?_ _ _ ?_) | (refine Below.setCell ?_ ?_ _) | (refine Below.alloc ?_ ?_ _) | (simp; done) | (simp; omega)))
              · have t3 : (l[j].a == 1) = false := by simp [x3]
                have hheld : heldB h s l[j].b = true := by rw [hv_held hh1 hbd.2.2.1 (by omega), hV.out]; omega
                have hfin := Lib.hid (finS_bad hlt hst.out (doE_l (p := p) (s := s) (h := h) (n := d.length) hsh hw0 (by omega) x3 hheld (by omega)) (by decide))
                have t6 : ((d.length : Int) == 400) = true := by simp [x6]
                clear hsh hw0 x3 hheld x6
                go_wp2_with (first
              | (go_at_call 28; refine (cshaped_any l[j] _).mono ?_; rintro e w2 ⟨rfl, hB2⟩; rw [HS.out]
                 have kX := (Blk.new wr 52 #[.int .i64 l[j].a, .int .i64 l[j].b, .string l[j].s]).below' hB2
                 have hq2 : Below wr.heap.size wr w2 := Below.trans (b := wr.alloc (.cells #[.int .i64 l[j].a, .int .i64 l[j].b, .string l[j].s] 52)) (by (repeat' first | exact Below.refl _ _ | apply Below.drew | (refine Below.setCells ?_ _ _ ?_) | (refine Below.setCell ?_ ?_ _) | (refine Below.alloc ?_ ?_ _) | (simp; done) | (simp; omega))) (hB2.mono (by simp))
                 have kR := hR.below' hq2
                 have a0 := kX.cell 0 _ rfl
                 have a1 := kX.cell 1 _ rfl
                 have a2 := kX.cell 2 _ rfl
                 have a3 := kX.lt
                 have r0 := kR.cell 0 _ rfl
                 have r1 := kR.cell 1 _ rfl
                 have q0 := kR.frozen 0
                 have q1 := kR.frozen 1
                 have rl := kR.lt)
              | (go_at_call 30; refine (word_any l[j].s _ HWj.out).mono ?_; rintro e w3 ⟨rfl, hB3⟩; rw [HE.out]
                 have kX3 := kX.below' hB3
                 have hq3 : Below wr.heap.size wr w3 := hq2.trans (hB3.mono hq2.size)
                 have kR3 := hR.below' hq3
                 have b0' := kX3.cell 0 _ rfl
                 have b1' := kX3.cell 1 _ rfl
                 have b2' := kX3.cell 2 _ rfl
                 have b3' := kX3.lt
                 have r0' := kR3.cell 0 _ rfl
                 have r1' := kR3.cell 1 _ rfl
                 have q0' := kR3.frozen 0
                 have q1' := kR3.frozen 1
                 have rl' := kR3.lt
                 have hown3 := hown.below hq3
                 have hz3 := hq3.size)
              | (at_builtin; refine wpList_append_tri rfl (.tmp 57) (.tmp 63) _ rfl (w.heap.size + 1) _ i0 _ Tryz.underlying31 hi0 hz0' hz1' hz2' rfl _ d rfl (hown3.alloc _) w3.heap.size (workOf l[j]) rfl (World.cell?_alloc_new _ _ _ 0) (World.cell?_alloc_new _ _ _ 1) (World.cell?_alloc_new _ _ _ 2) (by omega) (by simp; omega) ?_; intro v8 w8 hown8 hg8))
                (try simp only [Exit.inBlock, Exit.then])
                refine sheet_ret rfl rfl (g := w.heap.size) (x := .int .i64 0) (y := .slice none 0 0) (by simpa using (kR3.set_ 0 (.int .i64 0)).set_ 1 (.slice none 0 0)) rfl ?_
                have hBf := hB.trans (hq3.mono hz)
                exact sheetPost_bad (by rw [hinv.out, hfin.out]) (by (repeat' first | assumption | exact Below.refl _ _ | apply Below.drew | (refine Below.setCells ?_ _ _ ?_) | (refine Below.setCell ?_ ?_ _) | (refine Below.alloc ?_ ?_ _) | (simp; done) | (simp; omega)))
              · have t3 : (l[j].a == 1) = false := by simp [x3]
                have t7 : (l[j].a == 3) = true := by simp [x7]
                have hheld : heldB h s l[j].b = true := by rw [hv_held hh1 hbd.2.2.1 (by omega), hV.out]; omega
                have hd0 := doE_0 (p := p) (s := s) (h := h) (n := d.length) hsh hw0 (by omega) (Or.inr ⟨hheld, by omega⟩)
                have hfin := Lib.hid (finS_step hlt hst.out hd0)
                have hst2 := Lib.hid (stS_work hlt hst.out x3)
                have hwk := Lib.hid (show workOf l[j] = (⟨2, l[j].b, .empty⟩ : Tri) from by unfold workOf; rw [if_pos x7])
                have t6 : ((d.length : Int) == 400) = false := by simp; omega
                clear hsh hw0 x3 hd0 hheld x7
                go_wp2_with (first
              | (go_at_call 28; refine (cshaped_any l[j] _).mono ?_; rintro e w2 ⟨rfl, hB2⟩; rw [HS.out]
                 have kX := (Blk.new wr 52 #[.int .i64 l[j].a, .int .i64 l[j].b, .string l[j].s]).below' hB2
                 have hq2 : Below wr.heap.size wr w2 := Below.trans (b := wr.alloc (.cells #[.int .i64 l[j].a, .int .i64 l[j].b, .string l[j].s] 52)) (by (repeat' first | exact Below.refl _ _ | apply Below.drew | (refine Below.setCells ?_ _ _ ?_) | (refine Below.setCell ?_ ?_ _) | (refine Below.alloc ?_ ?_ _) | (simp; done) | (simp; omega))) (hB2.mono (by simp))
                 have kR := hR.below' hq2
                 have a0 := kX.cell 0 _ rfl
                 have a1 := kX.cell 1 _ rfl
                 have a2 := kX.cell 2 _ rfl
                 have a3 := kX.lt
                 have r0 := kR.cell 0 _ rfl
                 have r1 := kR.cell 1 _ rfl
                 have q0 := kR.frozen 0
                 have q1 := kR.frozen 1
                 have rl := kR.lt)
              | (go_at_call 30; refine (word_any l[j].s _ HWj.out).mono ?_; rintro e w3 ⟨rfl, hB3⟩; rw [HE.out]
                 have kX3 := kX.below' hB3
                 have hq3 : Below wr.heap.size wr w3 := hq2.trans (hB3.mono hq2.size)
                 have kR3 := hR.below' hq3
                 have b0' := kX3.cell 0 _ rfl
                 have b1' := kX3.cell 1 _ rfl
                 have b2' := kX3.cell 2 _ rfl
                 have b3' := kX3.lt
                 have r0' := kR3.cell 0 _ rfl
                 have r1' := kR3.cell 1 _ rfl
                 have q0' := kR3.frozen 0
                 have q1' := kR3.frozen 1
                 have rl' := kR3.lt
                 have hown3 := hown.below hq3
                 have hz3 := hq3.size)
              | (at_builtin; refine wpList_append_tri rfl (.tmp 127) (.tmp 131) _ rfl (w.heap.size + 1) _ i0 _ Tryz.underlying31 hi0 hz0' hz1' hz2' rfl _ d rfl (hown3.alloc _) w3.heap.size (⟨2, l[j].b, .empty⟩ : Tri) rfl (World.cell?_alloc_new _ _ _ 0) (World.cell?_alloc_new _ _ _ 1) (World.cell?_alloc_new _ _ _ 2) (by omega) (by simp; omega) ?_; intro v8 w8 hown8 hg8))
                have hB8 : Below w.heap.size w w8 := ((hown3.base (base' := w.heap.size) (by omega)).alloc _).grown ((hB.trans (hq3.mono hz)).alloc (by omega) _) hg8 (by simp; omega)
                go_roundw
                case rel => exact ⟨j + 1, h, d ++ [workOf l[j]], by omega, by go_num, by rw [hV.out], by omega, by omega, by simp; omega, hst2, by rw [Hid, hinv.out, hfin.out], (kR3.alloc _).grown hg8 (hown3.ne_block kR3 (by decide)), by rw [hwk.out]; exact hown8, hB8⟩
                case measure => simp [intOf]; omega
              · have t3 : (l[j].a == 1) = false := by simp [x3]
                have t7 : (l[j].a == 3) = false := by simp [x7]
                have hheld : heldB h s l[j].b = true := by rw [hv_held hh1 hbd.2.2.1 (by omega), hV.out]; omega
                have hd0 := doE_0 (p := p) (s := s) (h := h) (n := d.length) hsh hw0 (by omega) (Or.inr ⟨hheld, by omega⟩)
                have hfin := Lib.hid (finS_step hlt hst.out hd0)
                have hst2 := Lib.hid (stS_work hlt hst.out x3)
                have hwk := Lib.hid (show workOf l[j] = (⟨1, l[j].b, l[j].s⟩ : Tri) from by unfold workOf; rw [if_neg x7])
                have t6 : ((d.length : Int) == 400) = false := by simp; omega
                clear hsh hw0 x3 hd0 hheld x7
                go_wp2_with (first
              | (go_at_call 28; refine (cshaped_any l[j] _).mono ?_; rintro e w2 ⟨rfl, hB2⟩; rw [HS.out]
                 have kX := (Blk.new wr 52 #[.int .i64 l[j].a, .int .i64 l[j].b, .string l[j].s]).below' hB2
                 have hq2 : Below wr.heap.size wr w2 := Below.trans (b := wr.alloc (.cells #[.int .i64 l[j].a, .int .i64 l[j].b, .string l[j].s] 52)) (by (repeat' first | exact Below.refl _ _ | apply Below.drew | (refine Below.setCells ?_ _ _ ?_) | (refine Below.setCell ?_ ?_ _) | (refine Below.alloc ?_ ?_ _) | (simp; done) | (simp; omega))) (hB2.mono (by simp))
                 have kR := hR.below' hq2
                 have a0 := kX.cell 0 _ rfl
                 have a1 := kX.cell 1 _ rfl
                 have a2 := kX.cell 2 _ rfl
                 have a3 := kX.lt
                 have r0 := kR.cell 0 _ rfl
                 have r1 := kR.cell 1 _ rfl
                 have q0 := kR.frozen 0
                 have q1 := kR.frozen 1
                 have rl := kR.lt)
              | (go_at_call 30; refine (word_any l[j].s _ HWj.out).mono ?_; rintro e w3 ⟨rfl, hB3⟩; rw [HE.out]
                 have kX3 := kX.below' hB3
                 have hq3 : Below wr.heap.size wr w3 := hq2.trans (hB3.mono hq2.size)
                 have kR3 := hR.below' hq3
                 have b0' := kX3.cell 0 _ rfl
                 have b1' := kX3.cell 1 _ rfl
                 have b2' := kX3.cell 2 _ rfl
                 have b3' := kX3.lt
                 have r0' := kR3.cell 0 _ rfl
                 have r1' := kR3.cell 1 _ rfl
                 have q0' := kR3.frozen 0
                 have q1' := kR3.frozen 1
                 have rl' := kR3.lt
                 have hown3 := hown.below hq3
                 have hz3 := hq3.size)
              | (at_builtin; refine wpList_append_tri rfl (.tmp 57) (.tmp 63) _ rfl (w.heap.size + 1) _ i0 _ Tryz.underlying31 hi0 hz0' hz1' hz2' rfl _ d rfl (hown3.alloc _) w3.heap.size (⟨1, l[j].b, l[j].s⟩ : Tri) rfl (World.cell?_alloc_new _ _ _ 0) (World.cell?_alloc_new _ _ _ 1) (World.cell?_alloc_new _ _ _ 2) (by omega) (by simp; omega) ?_; intro v8 w8 hown8 hg8))
                have hB8 : Below w.heap.size w w8 := ((hown3.base (base' := w.heap.size) (by omega)).alloc _).grown ((hB.trans (hq3.mono hz)).alloc (by omega) _) hg8 (by simp; omega)
                go_roundw
                case rel => exact ⟨j + 1, h, d ++ [workOf l[j]], by omega, by go_num, by rw [hV.out], by omega, by omega, by simp; omega, hst2, by rw [Hid, hinv.out, hfin.out], (kR3.alloc _).grown hg8 (hown3.ne_block kR3 (by decide)), by rw [hwk.out]; exact hown8, hB8⟩
                case measure => simp [intOf]; omega
            · obtain ⟨E, HE⟩ : ∃ E, Hid (wordE l[j].s = E) := ⟨_, Lib.hid rfl⟩
              have HS := Lib.hid hsh
              have hfin := Lib.hid (finS_bad hlt hst.out (doE_w (p := p) (s := s) (h := h) (n := d.length) hsh hw0) hw0)
              rw [HE.out] at hw0 hfin
              have tw : (E != 0) = true := by simp [hw0]
              clear hsh hw0
              go_wp2_with (first
            | (go_at_call 28; refine (cshaped_any l[j] _).mono ?_; rintro e w2 ⟨rfl, hB2⟩; rw [HS.out]
               have kX := (Blk.new wr 52 #[.int .i64 l[j].a, .int .i64 l[j].b, .string l[j].s]).below' hB2
               have hq2 : Below wr.heap.size wr w2 := Below.trans (b := wr.alloc (.cells #[.int .i64 l[j].a, .int .i64 l[j].b, .string l[j].s] 52)) (by (repeat' first | exact Below.refl _ _ | apply Below.drew | (refine Below.setCells ?_ _ _ ?_) | (refine Below.setCell ?_ ?_ _) | (refine Below.alloc ?_ ?_ _) | (simp; done) | (simp; omega))) (hB2.mono (by simp))
               have kR := hR.below' hq2
               have a0 := kX.cell 0 _ rfl
               have a1 := kX.cell 1 _ rfl
               have a2 := kX.cell 2 _ rfl
               have a3 := kX.lt
               have r0 := kR.cell 0 _ rfl
               have r1 := kR.cell 1 _ rfl
               have q0 := kR.frozen 0
               have q1 := kR.frozen 1
               have rl := kR.lt)
            | (go_at_call 30; refine (word_any l[j].s _ HWj.out).mono ?_; rintro e w3 ⟨rfl, hB3⟩; rw [HE.out]
               have kX3 := kX.below' hB3
               have hq3 : Below wr.heap.size wr w3 := hq2.trans (hB3.mono hq2.size)
               have kR3 := hR.below' hq3
               have b0' := kX3.cell 0 _ rfl
               have b1' := kX3.cell 1 _ rfl
               have b2' := kX3.cell 2 _ rfl
               have b3' := kX3.lt
               have r0' := kR3.cell 0 _ rfl
               have r1' := kR3.cell 1 _ rfl
               have q0' := kR3.frozen 0
               have q1' := kR3.frozen 1
               have rl' := kR3.lt
               have hown3 := hown.below hq3
               have hz3 := hq3.size)
            | (at_builtin; refine wpList_append_tri rfl (.tmp 57) (.tmp 63) _ rfl (w.heap.size + 1) _ i0 _ Tryz.underlying31 hi0 hz0' hz1' hz2' rfl _ d rfl (hown3.alloc _) w3.heap.size (workOf l[j]) rfl (World.cell?_alloc_new _ _ _ 0) (World.cell?_alloc_new _ _ _ 1) (World.cell?_alloc_new _ _ _ 2) (by omega) (by simp; omega) ?_; intro v8 w8 hown8 hg8))
              (try simp only [Exit.inBlock, Exit.then])
              refine sheet_ret rfl rfl (g := w.heap.size) (x := .int .i64 0) (y := .slice none 0 0) (by simpa using (kR3.set_ 0 (.int .i64 0)).set_ 1 (.slice none 0 0)) rfl ?_
              have hBf := hB.trans (hq3.mono hz)
              exact sheetPost_bad (by rw [hinv.out, hfin.out]) (by (repeat' first | assumption | exact Below.refl _ _ | apply Below.drew | (refine Below.setCells ?_ _ _ ?_) | (refine Below.setCell ?_ ?_ _) | (refine Below.alloc ?_ ?_ _) | (simp; done) | (simp; omega)))
        · have hfin := Lib.hid (finS_end hlt hst.out (p := p) (s := s))
          have q0 := hR.frozen 0
          have q1 := hR.frozen 1
          have r0 := hR.cell 0 _ rfl
          have r1 := hR.cell 1 _ rfl
          go_wp2_with fail
          (try simp only [Exit.inBlock, Exit.then])
          refine sheet_ret rfl rfl (g := w.heap.size) (x := .int .i64 p) (y := .slice Av d.length cv) (by simpa using (hR.set_ 0 (.int .i64 p)).set_ 1 (.slice Av d.length cv)) rfl ?_
          unfold SheetPost
          rw [hinv.out, hfin.out]
          refine ⟨_, rfl, ?_, by (repeat' first | assumption | exact Below.refl _ _ | apply Below.drew | (refine Below.setCells ?_ _ _ ?_) | (refine Below.setCell ?_ ?_ _) | (refine Below.alloc ?_ ?_ _) | (simp; done) | (simp; omega))⟩
          exact Own.base (ownsRow_setCell_below (ownsRow_setCell_below hown (by simp) _) (by simp) _) (by omega)
end Go.Proofs.YtmfklcnocekdlaaGreatDoor

namespace Go.Proofs.YtmfklcnocekdlaaGreatDoor
open Go Go.RowKit Tor

theorem stS_len (l : List Tri) : ∀ k, (stS l k).2.length ≤ k
  | 0 => by simp [stS]
  | k + 1 => by
    have := stS_len l k
    unfold stS
    split
    · simp only; omega
    · simp only [List.length_append, List.length_singleton]; omega
theorem finS_len {p s : Int} {l : List Tri} : ∀ n k, (finS p s l n k).2.1.length ≤ n + k
  | 0, k => by have := stS_len l k; simp only [finS]; omega
  | n + 1, k => by
    unfold finS
    split
    · have := finS_len (p := p) (s := s) (l := l) n (k + 1); omega
    · simp
theorem sheetR_len {p s : Int} {l : List Tri} : (sheetR p s l).2.1.length ≤ l.length := by
  unfold sheetR
  split
  · simp
  · split
    · simp
    · exact finS_len _ _


end Go.Proofs.YtmfklcnocekdlaaGreatDoor

namespace Go.Proofs.YtmfklcnocekdlaaGreatDoor
open Go Go.RowKit Tor

/-- a work that is valid -/
structure WOk (p : Int) (x : Tri) : Prop where
  k : x.a = 1 ∨ x.a = 2
  b0 : 0 ≤ x.b
  b1 : x.b ≤ p - 2
  e : x.a = 2 → x.s.size = 0
  w : wordE x.s = 0
theorem wok_of {p : Int} {l : List Tri} (h : sheetE p l = 0) : ∀ x ∈ l, WOk p x := by
  intro x hx
  unfold sheetE at h
  split at h
  · cases h
  · split at h
    · cases h
    · split at h
      · cases h
      · rename_i hb
        split at h
        · cases h
        · rename_i hw
          rw [List.any_eq_true] at hb hw
          have h1 : badW p x = false := by
            cases hbx : badW p x
            · rfl
            · exact absurd ⟨x, hx, hbx⟩ hb
          have h2 : wrongW x = false := by
            cases hbx : wrongW x
            · rfl
            · exact absurd ⟨x, hx, hbx⟩ hw
          rw [badW_false] at h1
          unfold wrongW at h2
          exact ⟨by omega, by omega, by omega, by omega, by simpa using h2⟩

/-- an order in which all works come, each behind those that it must come behind -/
def LinExt (l : List Tri) : List Nat → List Nat → Prop
  | _, [] => True
  | M, i :: r => i < l.length ∧ rdyB l M i = true ∧ LinExt l (M ++ [i]) r
end Go.Proofs.YtmfklcnocekdlaaGreatDoor

namespace Go.Proofs.YtmfklcnocekdlaaGreatDoor
open Go Go.RowKit Tor

section
variable {p s : Int}
/-- how many reaches there are in the order of a list -/
def C (p s : Int) (l : List Tri) : Nat := reachesN (rst p s l (-1))

theorem workOf_b (x : Tri) : (workOf x).b = x.b := by unfold workOf; split <;> rfl
theorem workOf_ok {h n : Int} {x : Tri} (hf : Fine p s h n x) (ha : x.a ≠ 1) : WOk p (workOf x) := by
  refine ⟨?_, by rw [workOf_b]; exact hf.b0, by rw [workOf_b]; exact hf.b1, fun e => ?_, ?_⟩
  · unfold workOf; split <;> simp
  · unfold workOf at e ⊢
    split
    · rfl
    · rename_i h3; rw [if_neg h3] at e; simp at e
  · unfold workOf
    split
    · rfl
    · exact hf.w
theorem okS_works : ∀ (g : List Tri) (h n : Int), okS p s h n g → ∀ x ∈ worksOf g, WOk p x
  | [], _, _, _, x, hx => by simp [worksOf] at hx
  | y :: r, h, n, hok, x, hx => by
    unfold okS at hok
    by_cases ha : y.a = 1
    · rw [if_pos ha] at hok
      rw [worksOf_cons1 ha] at hx
      exact okS_works r _ _ hok.2 x hx
    · rw [if_neg ha] at hok
      rw [worksOf_cons2 ha, List.mem_cons] at hx
      rcases hx with rfl | hx
      · exact workOf_ok hok.1 ha
      · exact okS_works r _ _ hok.2 x hx
end
end Go.Proofs.YtmfklcnocekdlaaGreatDoor

namespace Go.Proofs.YtmfklcnocekdlaaGreatDoor
open Go Go.RowKit Tor

/-- the bits name what is made -/
def Bits (n d : Nat) (M : List Nat) : Prop := ∀ i, i < n → d.testBit i = M.contains i
section
variable {p s : Int} {l : List Tri}
theorem rdyB_new {M : List Nat} {i : Nat} (h : rdyB l M i = true) : i ∉ M := by
  unfold rdyB at h
  simp only [Bool.and_eq_true, Bool.not_eq_true', List.contains_eq_mem, decide_eq_false_iff_not] at h
  exact h.2
theorem lin_lt : ∀ (O M : List Nat), LinExt l M O → ∀ i ∈ O, i < l.length
  | [], _, _, i, hi => by simp at hi
  | j :: r, M, h, i, hi => by
    unfold LinExt at h
    rcases List.mem_cons.1 hi with rfl | hi
    · exact h.1
    · exact lin_lt r _ h.2.2 i hi
theorem lin_nodup : ∀ (O M : List Nat), LinExt l M O → M.Nodup → (M ++ O).Nodup
  | [], M, _, h => by simpa using h
  | j :: r, M, h, hnd => by
    unfold LinExt at h
    have hj := rdyB_new h.2.1
    have h1 : (M ++ [j]).Nodup := by
      rw [List.nodup_append]
      exact ⟨hnd, by simp, fun x hx y hy e => by simp at hy; subst hy; subst e; exact hj hx⟩
    have := lin_nodup r (M ++ [j]) h.2.2 h1
    simpa using this


end
end Go.Proofs.YtmfklcnocekdlaaGreatDoor

namespace Go.Proofs.YtmfklcnocekdlaaGreatDoor
open Go Go.RowKit Tor

theorem lin_at {l : List Tri} : ∀ (O M : List Nat), LinExt l M O → ∀ (j : Nat) (hj : j < O.length), O[j] < l.length ∧ rdyB l (M ++ O.take j) O[j] = true
  | [], _, _, j, hj => by simp at hj
  | i :: r, M, h, 0, hj => by
    unfold LinExt at h
    simpa using ⟨h.1, h.2.1⟩
  | i :: r, M, h, j + 1, hj => by
    unfold LinExt at h
    have := lin_at r (M ++ [i]) h.2.2 j (by simpa using hj)
    simpa using this

end Go.Proofs.YtmfklcnocekdlaaGreatDoor

namespace Go.Proofs.YtmfklcnocekdlaaGreatDoor
open Go Go.RowKit Tor

theorem wordE_size {s : ByteArray} (h : wordE s = 0) : s.size ≤ 16 := by
  unfold wordE at h
  split at h
  · cases h
  · omega
theorem sheetE_of {p : Int} {L : List Tri} (h2 : 2 ≤ p) (h24 : p ≤ 24) (hn : L.length ≤ 400) (hw : ∀ x ∈ L, WOk p x) : sheetE p L = 0 := by
  have a1 : L.any longW = false := by
    rw [List.any_eq_false]
    intro x hx
    have := wordE_size (hw x hx).w
    unfold longW
    simp; omega
  have a2 : L.any (badW p) = false := by
    rw [List.any_eq_false]
    intro x hx
    have hx' := hw x hx
    have : badW p x = false := by
      rw [badW_false]
      have := hx'.k; have := hx'.b0; have := hx'.b1; have := hx'.e
      omega
    simp [this]
  have a3 : L.any wrongW = false := by
    rw [List.any_eq_false]
    intro x hx
    unfold wrongW
    simp [(hw x hx).w]
  unfold sheetE
  rw [if_neg (by rw [a1]; simp; omega), if_neg (by omega), if_neg (by simp [a2]), if_neg (by simp [a3])]
theorem wok_words {p : Int} {L : List Tri} (hw : ∀ x ∈ L, WOk p x) : ∀ (k : Nat) (hk : k < L.length), L[k].s.size ≤ 9223372036854775807 := fun k hk => by
  have := wordE_size (hw _ (List.getElem_mem hk)).w; omega
end Go.Proofs.YtmfklcnocekdlaaGreatDoor

namespace Go.Proofs.YtmfklcnocekdlaaGreatDoor
open Go Go.RowKit Tor

section
variable {p s : Int} {l : List Tri}
theorem lin_range : ∀ (k m : Nat), k + m = l.length → LinExt l (List.range m) (List.range' m k)
  | 0, m, h => trivial
  | k + 1, m, h => by
    rw [List.range'_succ]
    refine ⟨by omega, ?_, ?_⟩
    · unfold rdyB
      simp only [Bool.and_eq_true, List.all_eq_true, List.mem_range, Bool.or_eq_true, Bool.not_eq_true', List.contains_eq_mem, decide_eq_true_eq, decide_eq_false_iff_not]
      exact ⟨fun k hk => Or.inl hk, by omega⟩
    · have := lin_range k (m + 1) (by omega)
      rw [List.range_succ] at this
      exact this
theorem lin_id : LinExt l [] (List.range l.length) := by
  have := lin_range (l := l) l.length 0 (by omega)
  rw [List.range_zero, ← List.range_eq_range'] at this
  exact this
theorem map_id' : (List.range l.length).map (xAt l) = l := by
  apply List.ext_getElem
  · simp
  · intro k h1 h2
    rw [List.getElem_map, List.getElem_range, xAt_of h2]

variable {A : List Nat}
theorem lin_full (hA : LinExt l [] A) (hl : A.length = l.length) : A.Nodup ∧ (∀ i ∈ A, i < l.length) ∧ ∀ i, i < l.length → i ∈ A := by
  have h1 : A.Nodup := by simpa using lin_nodup A [] hA List.nodup_nil
  have h2 := lin_lt A [] hA
  exact ⟨h1, h2, all_made h1 h2 (by omega)⟩
theorem xAt_map {j : Nat} (hj : j < A.length) : xAt (A.map (xAt l)) j = xAt l A[j] := by
  rw [xAt_of (by simpa using hj), List.getElem_map]

/-- an order of a sheet, as an order of the sheet that lies in another order -/
theorem lin_comp (hA : LinExt l [] A) (hl : A.length = l.length) : ∀ (suf pre : List Nat), (∀ i ∈ pre, i < l.length) → LinExt l pre suf → LinExt (A.map (xAt l)) (pre.map A.idxOf) (suf.map A.idxOf)
  | [], pre, _, _ => trivial
  | b :: r, pre, hpre, h => by
    obtain ⟨f1, f2, f3⟩ := lin_full hA hl
    unfold LinExt at h
    obtain ⟨hb, hr, hrest⟩ := h
    have hbA := f3 b hb
    have hib : A.idxOf b < A.length := List.idxOf_lt_length_of_mem hbA
    have hgb : A[A.idxOf b] = b := List.getElem_idxOf hib
    have hr2 := (rdyB_iff hb).1 hr
    rw [List.map_cons]
    refine ⟨by simpa using hib, ?_, ?_⟩
    · rw [rdyB_iff (by simpa using hib)]
      refine ⟨by simpa using hib, ?_, fun j hj hjp => ?_⟩
      · rw [List.mem_map]
        rintro ⟨b', hb', e⟩
        have hb'A : b' ∈ A := f3 b' (hpre b' hb')
        have hib' : A.idxOf b' < A.length := List.idxOf_lt_length_of_mem hb'A
        have : b' = b := by
          rw [← List.getElem_idxOf hib', ← hgb]
          congr 1
        subst this
        exact hr2.2.1 hb'
      · intro ht
        have hjA : j < A.length := by omega
        have hja := lin_at A [] hA j hjA
        rw [List.nil_append] at hja
        have ha2 := (rdyB_iff hja.1).1 hja.2
        have hidx : A.idxOf A[j] = j := List.Nodup.idxOf_getElem f1 j hjA
        have hne : A[j] ≠ b := fun e => by rw [e] at hidx; omega
        have e1 : (A.map (xAt l))[j]'(by simpa using hjA) = l[A[j]]'hja.1 := by rw [List.getElem_map, xAt_of hja.1]
        have e2 : (A.map (xAt l))[A.idxOf b]'(by simpa using hib) = l[b]'hb := by rw [List.getElem_map, hgb, xAt_of hb]
        rw [e1, e2] at ht
        rcases Nat.lt_or_ge A[j] b with hlt | hge
        · have hin : A[j] ∈ pre := Classical.byContradiction fun hn => hr2.2.2 A[j] hlt hn ht
          exact hjp (by rw [List.mem_map]; exact ⟨A[j], hin, hidx⟩)
        · have hin : b ∈ A.take j := Classical.byContradiction fun hn => ha2.2.2 b (by omega) hn ⟨ht.2, ht.1⟩
          obtain ⟨i, hi, he⟩ := List.getElem_of_mem hin
          rw [List.length_take] at hi
          rw [List.getElem_take] at he
          have : A.idxOf b = i := by rw [← he]; exact List.Nodup.idxOf_getElem f1 i (by omega)
          omega
    · have := lin_comp hA hl r (pre ++ [b]) (fun i hi => by
        rcases List.mem_append.1 hi with hi | hi
        · exact hpre i hi
        · simp at hi; subst hi; exact hb) hrest
      rw [List.map_append] at this
      exact this
theorem comp_map (hA : LinExt l [] A) (hl : A.length = l.length) {B : List Nat} (hB : ∀ i ∈ B, i < l.length) : (B.map A.idxOf).map (xAt (A.map (xAt l))) = B.map (xAt l) := by
  obtain ⟨f1, f2, f3⟩ := lin_full hA hl
  rw [List.map_map]
  refine List.map_congr_left fun b hb => ?_
  have hib : A.idxOf b < A.length := List.idxOf_lt_length_of_mem (f3 b (hB b hb))
  show xAt (A.map (xAt l)) (A.idxOf b) = xAt l b
  rw [xAt_map hib, List.getElem_idxOf hib]


end

end Go.Proofs.YtmfklcnocekdlaaGreatDoor

namespace Go.Proofs.YtmfklcnocekdlaaGreatDoor
open Go Go.RowKit Tor

section
variable {p s : Int}
/-- the works lie mirrored -/
def Mir (p : Int) (T l : List Tri) : Prop := T.map (·.b) = l.map fun x => p - 2 - x.b
theorem Mir.len {T l : List Tri} (h : Mir p T l) : T.length = l.length := by
  have := congrArg List.length h
  simpa using this
theorem Mir.drop {T l : List Tri} (h : Mir p T l) (k : Nat) : Mir p (T.drop k) (l.drop k) := by
  unfold Mir at h ⊢
  rw [List.map_drop, List.map_drop, h]
theorem Mir.at {T l : List Tri} (h : Mir p T l) {k : Nat} (hT : k < T.length) (hl : k < l.length) : T[k].b = p - 2 - l[k].b := by
  have h1 : (T.map (·.b))[k]? = (l.map fun x => p - 2 - x.b)[k]? := by rw [h]
  rw [List.getElem?_map, List.getElem?_map, List.getElem?_eq_getElem hT, List.getElem?_eq_getElem hl] at h1
  simpa using h1
theorem Mir.xAt {T l : List Tri} (h : Mir p T l) {k : Nat} (hl : k < l.length) : (xAt T k).b = p - 2 - (xAt l k).b := by
  have hT : k < T.length := by rw [h.len]; exact hl
  rw [xAt_of hT, xAt_of hl]
  exact h.at hT hl
end

theorem sheet_ret2 {fn : Func} {p u : Tmp} (h : fn.results = #[.cell p 33, .tmp u]) {R : Ending → World → Prop} {a : Act} {w : World} {g : Nat} {x y : Value} (hp : a.tmps.getD p undef = .pointer (some ⟨g, 0, none⟩))
    (hb : Blk w g 33 #[x, y]) (hd : a.defers = []) (hR : R (.returned (.tuple #[.agg #[x, y], a.tmps.getD u undef])) w) : bodyPost Tryz.prog fn R .ret a w := by
  refine bodyPost_ret (v := .tuple #[.agg #[x, y], a.tmps.getD u undef]) ?_ hd hR
  have c0 := hb.cell 0 x rfl
  have c1 := hb.cell 1 y rfl
  have hp' : a.tmps[p]?.getD undef = .pointer (some ⟨g, 0, none⟩) := by simpa using hp
  simp only [results, h]
  simp [Sem.run_bind, Result.andThen, hp']
  go_simp

end Go.Proofs.YtmfklcnocekdlaaGreatDoor

