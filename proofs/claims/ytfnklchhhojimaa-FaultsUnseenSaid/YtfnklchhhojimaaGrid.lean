/- Rows of rows of numbers, while they are filled. -/
import Derived.Test.YtfnklchhhojimaaOldA3
import Derived.Test.YtfnklchhhojimaaOldB
import Derived.Test.YtfnklchhhojimaaDiaM
set_option linter.unusedSimpArgs false
set_option linter.unusedVariables false
namespace Go.Proofs.Ytfnklchhhojimaa
open Go Go.RowKit Tor

def venc (v : Value) : List Value := [v]
theorem venc_len (v : Value) : (venc v).length = 1 := rfl
theorem flat_venc : ∀ l : List Value, l.flatMap venc = l
  | [] => rfl
  | x :: r => by rw [List.flatMap_cons, flat_venc r]; rfl

/-- a slice of slices of numbers, all of the call's own -/
structure GridW (w : World) (base : Nat) (v : Value) (vs : List Value) (R : List (List Nat)) : Prop where
  out : Own 1 venc w base 38 v vs
  len : vs.length = R.length
  inn : ∀ k (h : k < vs.length), Own 1 nenc w base 3 vs[k] (R.getD k [])
  sep : ∀ j k (hj : j < vs.length) (hk : k < vs.length), j ≠ k → vs[j].ownBlock = none ∨ vs[j].ownBlock ≠ vs[k].ownBlock
section
variable {w w' : World} {base : Nat} {v : Value} {vs : List Value} {R : List (List Nat)}
theorem GridW.nil (w : World) (base : Nat) : GridW w base (.slice none 0 0) [] [] := ⟨Own.nil _ _ _, rfl, fun k h => absurd h (by simp), fun j k hj => absurd hj (by simp)⟩
theorem GridW.alloc (h : GridW w base v vs R) (o : Obj) : GridW (w.alloc o) base v vs R := ⟨h.out.alloc o, h.len, fun k hk => (h.inn k hk).alloc o, h.sep⟩
theorem GridW.drew (h : GridW w base v vs R) : GridW w.drew base v vs R := ⟨h.out, h.len, h.inn, h.sep⟩
theorem GridW.below (h : GridW w base v vs R) (hB : Below w.heap.size w w') : GridW w' base v vs R := ⟨h.out.below hB, h.len, fun k hk => (h.inn k hk).below hB, h.sep⟩
theorem GridW.far (h : GridW w base v vs R) {p : Addr} (hp : p.block < base) (u : Value) : GridW (w.setCell p u) base v vs R := ⟨Own.far h.out hp u, h.len, fun k hk => Own.far (h.inn k hk) hp u, h.sep⟩

/-- an inner row's block is another one than the outer row's -/
theorem own_heap {α : Type} {sz : Nat} {enc : α → List Value} {e : TypeId} {x : Value} {l : List α} (h : Own sz enc w base e x l) {g : Nat} (hg : x.ownBlock = some g) : ∃ cs, w.heap[g]? = some (.cells cs e (0, 0)) := by
  obtain ⟨h1, h2⟩ := h
  rcases h2 with ⟨rfl, _⟩ | ⟨g', cap, cur, rfl, hb, hh, _⟩
  · cases hg
  · simp only [Value.ownBlock, Option.some.injEq] at hg
    subst hg
    exact ⟨cur, hh⟩
theorem GridW.ne (h : GridW w base v vs R) {k : Nat} (hk : k < vs.length) : vs[k].ownBlock = none ∨ vs[k].ownBlock ≠ v.ownBlock := by
  cases hv : vs[k].ownBlock with
  | none => exact .inl rfl
  | some g =>
    right
    obtain ⟨cs, hc⟩ := own_heap (h.inn k hk) hv
    exact Own.ne_block h.out hc (by decide)
theorem GridW.ne' (h : GridW w base v vs R) {k : Nat} (hk : k < vs.length) : v.ownBlock = none ∨ v.ownBlock ≠ vs[k].ownBlock := by
  cases hv : v.ownBlock with
  | none => exact .inl rfl
  | some g =>
    right
    obtain ⟨cs, hc⟩ := own_heap h.out hv
    exact Own.ne_block (h.inn k hk) hc (by decide)

/-- an empty row is put behind the others -/
theorem GridW.more (h : GridW w base v vs R) {v' : Value} (ho : Own 1 venc w' base 38 v' (vs ++ [.slice none 0 0])) (hg : w.grownBy w' v.ownBlock) : GridW w' base v' (vs ++ [.slice none 0 0]) (R ++ [[]]) := by
  have hl := h.len
  refine ⟨ho, by simp [hl], fun k hk => ?_, fun j k hj hk hjk => ?_⟩
  · simp only [List.length_append, List.length_cons, List.length_nil] at hk
    by_cases e : k < vs.length
    · rw [List.getElem_append_left e, List.getD_eq_getElem?_getD, List.getElem?_append_left (by omega), ← List.getD_eq_getElem?_getD]
      exact World.ownsRow.kept (h.inn k e) hg (h.ne e)
    · obtain rfl : k = vs.length := by omega
      rw [List.getElem_append_right (by omega), List.getD_eq_getElem?_getD, List.getElem?_append_right (by omega)]
      simp only [Nat.sub_self, List.getElem_cons_zero, hl, List.getElem?_cons_zero, Option.getD_some]
      exact Own.nil _ _ _
  · simp only [List.length_append, List.length_cons, List.length_nil] at hj hk
    by_cases e : j < vs.length
    · rw [List.getElem_append_left e]
      by_cases e2 : k < vs.length
      · rw [List.getElem_append_left e2]; exact h.sep j k e e2 hjk
      · rw [List.getElem_append_right (by omega)]
        cases hv : vs[j].ownBlock with
        | none => exact .inl rfl
        | some g => right; simp [Value.ownBlock]
    · rw [List.getElem_append_right (by omega)]
      left; simp [Value.ownBlock]

/-- row n has grown by an append -/
theorem GridW.put (h : GridW w base v vs R) {n : Nat} (hn : n < vs.length) {u : Value} {r : List Nat} {g c : Nat} (hv : v = .slice (some ⟨g, 0, none⟩) vs.length c)
    (ho : Own 1 nenc w' base 3 u r) (hg : w.grownBy w' vs[n].ownBlock) (hb : u.ownBlock = vs[n].ownBlock ∨ u.ownBlock = some w.heap.size) :
    GridW (w'.setCell ⟨g, n, none⟩ u) base v (vs.set n u) (R.set n r) := by
  have hl := h.len
  have hout : Own 1 venc w' base 38 v vs := World.ownsRow.kept h.out hg (h.ne' hn)
  have hgb : v.ownBlock = some g := by rw [hv]; rfl
  have hst := hout
  unfold Own at hst
  rw [flat_venc, hv] at hst
  obtain ⟨s1, s2⟩ := World.ownsRow.stored hst n u
  obtain ⟨cs, hgh⟩ := own_heap h.out hgb
  have hgl : g < w.heap.size := (Array.getElem?_eq_some_iff.1 hgh).1
  have hug : u.ownBlock = none ∨ u.ownBlock ≠ some g := by
    cases hu : u.ownBlock with
    | none => exact .inl rfl
    | some q =>
      right
      obtain ⟨cs', hq⟩ := own_heap ho hu
      have := Own.ne_block hout hq (by decide)
      rw [hgb] at this
      exact this
  refine ⟨?_, by simp [hl], fun k hk => ?_, fun j k hj hk hjk => ?_⟩
  · unfold Own
    rw [flat_venc, List.length_set, hv]
    exact s1
  · simp only [List.length_set] at hk
    by_cases e : k = n
    · subst e
      rw [List.getElem_set_self, List.getD_eq_getElem?_getD, List.getElem?_set_self (by omega)]
      exact World.ownsRow.kept ho s2 hug
    · rw [List.getElem_set_ne (fun e' => e e'.symm), List.getD_eq_getElem?_getD, List.getElem?_set_ne (fun e' => e e'.symm), ← List.getD_eq_getElem?_getD]
      have h1 : Own 1 nenc w' base 3 vs[k] (R.getD k []) := World.ownsRow.kept (h.inn k hk) hg (h.sep k n hk hn e)
      have h2 := h.ne hk
      rw [hgb] at h2
      exact World.ownsRow.kept h1 s2 h2
  · have hj' : j < vs.length := by simpa using hj
    have hk' : k < vs.length := by simpa using hk
    have key : ∀ q (hq : q < vs.length), q ≠ n → vs[q].ownBlock = none ∨ vs[q].ownBlock ≠ u.ownBlock := fun q hq hqn => by
      rcases hb with hb | hb
      · rw [hb]; exact h.sep q n hq hn hqn
      · cases hvq : vs[q].ownBlock with
        | none => exact .inl rfl
        | some z =>
          right
          obtain ⟨cs', hz⟩ := own_heap (h.inn q hq) hvq
          have := (Array.getElem?_eq_some_iff.1 hz).1
          rw [hb]; intro e; simp only [Option.some.injEq] at e; omega
    by_cases e : j = n
    · subst e
      rw [List.getElem_set_self, List.getElem_set_ne (fun e' => hjk e')]
      rcases key k hk' (fun e' => hjk e'.symm) with hh | hh
      · cases hu : u.ownBlock with
        | none => exact .inl rfl
        | some z => right; rw [hh]; simp
      · exact .inr (fun e' => hh e'.symm)
    · by_cases e2 : k = n
      · subst e2
        rw [List.getElem_set_self, List.getElem_set_ne (fun e' => e e'.symm)]
        exact key j hj' e
      · rw [List.getElem_set_ne (fun e' => e e'.symm), List.getElem_set_ne (fun e' => e2 e'.symm)]
        exact h.sep j k hj' hk' hjk
end
/-- a slice of slices of numbers that is read -/
def RdG (w : World) (H : Nat) (A : Option Addr) (R : List (List Nat)) : Prop :=
  R ≠ [] → ∃ b o, A = some ⟨b, o, none⟩ ∧ b < H ∧ ∀ k (hk : k < R.length), ∃ (Ak : Option Addr) (ck : Nat), w.cell? ⟨b, o + k, none⟩ = some (.slice Ak R[k].length ck) ∧ Rd 1 nenc w H Ak R[k]
theorem GridW.rd {w : World} {base : Nat} {v : Value} {vs : List Value} {R : List (List Nat)} (h : GridW w base v vs R) : ∃ A c, v = .slice A R.length c ∧ R.length ≤ c ∧ RdG w w.heap.size A R := by
  obtain ⟨A, c, hv, hc, hr⟩ := Own.rd venc_len h.out
  rw [h.len] at hv hc
  refine ⟨A, c, hv, hc, fun hne => ?_⟩
  have hvs : vs ≠ [] := fun e => hne (List.eq_nil_of_length_eq_zero (by rw [← h.len, e]; rfl))
  obtain ⟨b, o, rfl, hb, hcell⟩ := hr hvs
  refine ⟨b, o, rfl, hb, fun k hk => ?_⟩
  have hk' : k < vs.length := by rw [h.len]; exact hk
  obtain ⟨Ak, ck, hvk, _, hrk⟩ := Own.rd nenc_len (h.inn k hk')
  have e : R.getD k [] = R[k] := by rw [List.getD_eq_getElem?_getD, List.getElem?_eq_getElem hk]; rfl
  rw [e] at hvk hrk
  have := hcell k _ (List.getElem?_eq_getElem hk') 0 _ rfl
  rw [hvk, Nat.mul_one, Nat.add_zero] at this
  exact ⟨Ak, ck, this, hrk⟩
theorem RdG.below {w w' : World} {H : Nat} {A : Option Addr} {R : List (List Nat)} (h : RdG w H A R) (hB : Below H w w') : RdG w' H A R := fun hne => by
  obtain ⟨b, o, e, hb, hc⟩ := h hne
  refine ⟨b, o, e, hb, fun k hk => ?_⟩
  obtain ⟨Ak, ck, h1, h2⟩ := hc k hk
  exact ⟨Ak, ck, (hB.cell (p := ⟨b, o + k, none⟩) hb).trans h1, h2.below hB⟩
end Go.Proofs.Ytfnklchhhojimaa
