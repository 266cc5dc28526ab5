/- Plain: what steps make. -/
import Derived.Test.YtogkgoabonbkkaaDoorDo
import Derived.Test.YtogkgoabonbkkaaDoorLaw
set_option linter.unusedSimpArgs false
set_option linter.unusedVariables false
namespace Go.Proofs.YtogkgoabonbkkaaDoor
open Go Go.RowKit Tor

/-- the hands and the works behind k steps -/
def stS (l : List Tri) : Nat → Int × List Tri
  | 0 => (-1, [])
  | k + 1 => if (xAt l k).a = 1 then ((xAt l k).b, (stS l k).2) else ((stS l k).1, (stS l k).2 ++ [workOf (xAt l k)])
def errS (p s : Int) (l : List Tri) (k : Nat) : Int := doE p s (stS l k).1 (stS l k).2.length (xAt l k)
def finS (p s : Int) (l : List Tri) : Nat → Nat → Int × List Tri × Int × Int
  | 0, k => (p, (stS l k).2, 0, 0)
  | n + 1, k => if errS p s l k = 0 then finS p s l n (k + 1) else (0, [], k, errS p s l k)

/-- what Sheet returns: pairs, works, the bad step, the error -/
def sheetR (p s : Int) (l : List Tri) : Int × List Tri × Int × Int :=
  if handsE p s ≠ 0 then (0, [], 0, handsE p s) else if 1000 < l.length then (0, [], 0, 3) else finS p s l l.length 0

theorem finS_bad {p s : Int} {l : List Tri} {k : Nat} {h : Int} {d : List Tri} {e : Int} (hk : k < l.length) (hs : stS l k = (h, d)) (he : doE p s h d.length l[k] = e) (hn : e ≠ 0) : finS p s l (l.length - k) k = (0, [], (k : Int), e) := by
  obtain ⟨n, hn'⟩ : ∃ n, l.length - k = n + 1 := ⟨l.length - k - 1, by omega⟩
  have e1 : errS p s l k = e := by unfold errS; rw [hs, xAt_of hk]; exact he
  rw [hn', finS, e1, if_neg hn]
theorem finS_step {p s : Int} {l : List Tri} {k : Nat} {h : Int} {d : List Tri} (hk : k < l.length) (hs : stS l k = (h, d)) (he : doE p s h d.length l[k] = 0) : finS p s l (l.length - k) k = finS p s l (l.length - (k + 1)) (k + 1) := by
  obtain ⟨n, hn'⟩ : ∃ n, l.length - k = n + 1 := ⟨l.length - k - 1, by omega⟩
  have e1 : errS p s l k = 0 := by unfold errS; rw [hs, xAt_of hk]; exact he
  rw [hn', finS, if_pos e1]
  congr 1
  omega
theorem finS_end {p s : Int} {l : List Tri} {k : Nat} {h : Int} {d : List Tri} (hk : ¬ k < l.length) (hs : stS l k = (h, d)) : finS p s l (l.length - k) k = (p, d, 0, 0) := by
  rw [show l.length - k = 0 by omega, finS, hs]
theorem stS_reach {l : List Tri} {k : Nat} {h : Int} {d : List Tri} (hk : k < l.length) (hs : stS l k = (h, d)) (ha : l[k].a = 1) : stS l (k + 1) = (l[k].b, d) := by
  rw [stS, xAt_of hk, if_pos ha, hs]
theorem stS_work {l : List Tri} {k : Nat} {h : Int} {d : List Tri} (hk : k < l.length) (hs : stS l k = (h, d)) (ha : l[k].a ≠ 1) : stS l (k + 1) = (h, d ++ [workOf l[k]]) := by
  rw [stS, xAt_of hk, if_neg ha, hs]


/-- a step that is fine -/
structure Fine (p s h n : Int) (x : Tri) : Prop where
  sh : shapedB x = true
  w : wordE x.s = 0
  b0 : 0 ≤ x.b
  b1 : x.b ≤ p - 2
  r : x.a = 1 → x.b ≤ p - s
  held : x.a ≠ 1 → heldB h s x.b = true
  n : x.a ≠ 1 → n < 400
theorem fine_of {p s h n : Int} {x : Tri} (he : doE p s h n x = 0) : Fine p s h n x := by
  unfold doE at he
  split at he
  · cases he
  · rename_i h1
    split at he
    · rename_i h2; exact absurd he h2
    · rename_i h2
      split at he
      · cases he
      · rename_i h3
        split at he
        · cases he
        · rename_i h4
          split at he
          · cases he
          · rename_i h5
            refine ⟨by simpa using h1, by simpa using h2, by omega, by omega, by omega, fun ha => ?_, fun ha => ?_⟩
            · cases hh : heldB h s x.b
              · exact absurd ⟨ha, hh⟩ h4
              · rfl
            · rcases Int.lt_or_le n 400 with h | h
              · exact h
              · exact absurd ⟨ha, h⟩ h5
theorem fine_doE {p s h n : Int} {x : Tri} (f : Fine p s h n x) : doE p s h n x = 0 := by
  refine doE_0 f.sh f.w (by have := f.b0; have := f.b1; have := f.r; omega) ?_
  by_cases ha : x.a = 1
  · exact Or.inl ha
  · exact Or.inr ⟨f.held ha, by have := f.n ha; omega⟩


/-- steps that are fine, one after the other -/
def okS (p s : Int) : Int → Int → List Tri → Prop
  | _, _, [] => True
  | h, n, x :: r => Fine p s h n x ∧ (if x.a = 1 then okS p s x.b n r else okS p s h (n + 1) r)
def worksOf (l : List Tri) : List Tri := (l.filter fun x => decide (x.a ≠ 1)).map workOf

theorem worksOf_cons1 {x : Tri} {l : List Tri} (h : x.a = 1) : worksOf (x :: l) = worksOf l := by simp [worksOf, h]
theorem worksOf_cons2 {x : Tri} {l : List Tri} (h : x.a ≠ 1) : worksOf (x :: l) = workOf x :: worksOf l := by simp [worksOf, h]
theorem worksOf_append (a b : List Tri) : worksOf (a ++ b) = worksOf a ++ worksOf b := by simp [worksOf]

theorem finS_ok {p s : Int} : ∀ (r pre : List Tri) (h : Int), stS (pre ++ r) pre.length = (h, worksOf pre) → okS p s h (worksOf pre).length r → finS p s (pre ++ r) r.length pre.length = (p, worksOf (pre ++ r), 0, 0)
  | [], pre, h, hs, _ => by
    rw [List.append_nil] at hs ⊢
    rw [List.length_nil, finS, hs]
  | x :: r, pre, h, hs, hok => by
    have hk : pre.length < (pre ++ x :: r).length := by simp
    have hx : (pre ++ x :: r)[pre.length] = x := by simp
    have hl : (pre ++ x :: r).length - pre.length = (x :: r).length := by simp
    have e : pre ++ x :: r = (pre ++ [x]) ++ r := by simp
    unfold okS at hok
    have hd := fine_doE hok.1
    rw [← hl, finS_step hk hs (by rw [hx]; exact hd)]
    by_cases ha : x.a = 1
    · have hs2 := stS_reach hk hs (by rw [hx]; exact ha)
      rw [hx] at hs2
      have hw : worksOf (pre ++ [x]) = worksOf pre := by rw [worksOf_append, worksOf_cons1 ha]; simp [worksOf]
      have h2 := hok.2
      rw [if_pos ha] at h2
      have := finS_ok r (pre ++ [x]) x.b (by rw [← e, hw, List.length_append]; exact hs2) (by rw [hw]; exact h2)
      rw [← e, List.length_append] at this
      rw [show (pre ++ x :: r).length - (pre.length + 1) = r.length by simp; omega]
      exact this
    · have hs2 := stS_work hk hs (by rw [hx]; exact ha)
      rw [hx] at hs2
      have hw : worksOf (pre ++ [x]) = worksOf pre ++ [workOf x] := by rw [worksOf_append, worksOf_cons2 ha]; simp [worksOf]
      have h2 := hok.2
      rw [if_neg ha] at h2
      have := finS_ok r (pre ++ [x]) h (by rw [← e, hw, List.length_append]; exact hs2) (by rw [hw]; simpa using h2)
      rw [← e, List.length_append] at this
      rw [show (pre ++ x :: r).length - (pre.length + 1) = r.length by simp; omega]
      exact this
theorem sheetR_ok {p s : Int} {l : List Tri} (hh : handsE p s = 0) (hl : l.length ≤ 1000) (hok : okS p s (-1) 0 l) : sheetR p s l = (p, worksOf l, 0, 0) := by
  unfold sheetR
  rw [if_neg (by simp [hh]), if_neg (by omega)]
  exact finS_ok l [] (-1) rfl hok

/-- what is made if nothing is wrong -/
theorem finS_inv {p s : Int} : ∀ (r pre : List Tri) (h : Int) (R : Int × List Tri × Int × Int), stS (pre ++ r) pre.length = (h, worksOf pre) → finS p s (pre ++ r) r.length pre.length = R → R.2.2.2 = 0 → okS p s h (worksOf pre).length r
  | [], pre, h, R, hs, hR, h0 => trivial
  | x :: r, pre, h, R, hs, hR, h0 => by
    have hk : pre.length < (pre ++ x :: r).length := by simp
    have hx : (pre ++ x :: r)[pre.length] = x := by simp
    have hl : (pre ++ x :: r).length - pre.length = (x :: r).length := by simp
    have e : pre ++ x :: r = (pre ++ [x]) ++ r := by simp
    rw [← hl] at hR
    by_cases hd : doE p s h (worksOf pre).length x = 0
    · rw [finS_step hk hs (by rw [hx]; exact hd), show (pre ++ x :: r).length - (pre.length + 1) = r.length by simp; omega] at hR
      unfold okS
      refine ⟨fine_of hd, ?_⟩
      by_cases ha : x.a = 1
      · have hs2 := stS_reach hk hs (by rw [hx]; exact ha)
        rw [hx] at hs2
        have hw : worksOf (pre ++ [x]) = worksOf pre := by rw [worksOf_append, worksOf_cons1 ha]; simp [worksOf]
        have := finS_inv r (pre ++ [x]) x.b R (by rw [← e, hw, List.length_append]; exact hs2) (by rw [← e, List.length_append]; exact hR) h0
        rw [if_pos ha]
        rw [hw] at this
        exact this
      · have hs2 := stS_work hk hs (by rw [hx]; exact ha)
        rw [hx] at hs2
        have hw : worksOf (pre ++ [x]) = worksOf pre ++ [workOf x] := by rw [worksOf_append, worksOf_cons2 ha]; simp [worksOf]
        have := finS_inv r (pre ++ [x]) h R (by rw [← e, hw, List.length_append]; exact hs2) (by rw [← e, List.length_append]; exact hR) h0
        rw [if_neg ha]
        rw [hw] at this
        simpa using this
    · rw [finS_bad hk hs (by rw [hx]) hd] at hR
      rw [← hR] at h0
      exact absurd h0 hd
theorem sheetR_inv {p s : Int} {l : List Tri} (h0 : (sheetR p s l).2.2.2 = 0) : handsE p s = 0 ∧ l.length ≤ 1000 ∧ okS p s (-1) 0 l ∧ sheetR p s l = (p, worksOf l, 0, 0) := by
  have hh : handsE p s = 0 := Classical.byContradiction fun hh => by
    unfold sheetR at h0
    rw [if_pos hh] at h0
    exact hh h0
  have hl : l.length ≤ 1000 := Classical.byContradiction fun hl => by
    unfold sheetR at h0
    rw [if_neg (by simp [hh]), if_pos (by omega)] at h0
    cases h0
  have hok : okS p s (-1) 0 l := by
    unfold sheetR at h0
    rw [if_neg (by simp [hh]), if_neg (by omega)] at h0
    exact finS_inv l [] (-1) _ rfl rfl h0
  exact ⟨hh, hl, hok, sheetR_ok hh hl hok⟩
end Go.Proofs.YtogkgoabonbkkaaDoor
