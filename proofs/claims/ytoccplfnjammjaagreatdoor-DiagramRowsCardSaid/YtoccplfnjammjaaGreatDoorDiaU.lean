/- Plain: the drawing of a row, work by work and place by place. -/
import Derived.Test.YtoccplfnjammjaaGreatDoorDiaT
set_option linter.unusedSimpArgs false
set_option linter.unusedVariables false
namespace Go.Proofs.YtoccplfnjammjaaGreatDoor
open Go Go.RowKit Tor

section
variable (l : List Tri) (L : List (List UInt8))
def inQ (l : List Tri) (q : Nat) (i : Nat) : Bool := decide (2 * (xAt l i).b ≤ (q : Int)) && decide ((q : Int) ≤ 2 * (xAt l i).b + 2)
theorem inQ_iff {q i : Nat} : inQ l q i = true ↔ 2 * (xAt l i).b ≤ (q : Int) ∧ (q : Int) ≤ 2 * (xAt l i).b + 2 := by unfold inQ; simp
theorem drawQ_nil (q : Nat) : drawQ l L [] q = if q % 2 = 0 then 124 else 32 := rfl
theorem drawQ_none {r : List Nat} {q : Nat} (h : ∀ i ∈ r, inQ l q i = false) : drawQ l L r q = if q % 2 = 0 then 124 else 32 := by
  unfold drawQ
  have : r.find? (fun i => decide (2 * (xAt l i).b ≤ (q : Int)) && decide ((q : Int) ≤ 2 * (xAt l i).b + 2)) = none := List.find?_eq_none.2 (fun x hx => by
    have := h x hx
    unfold inQ at this
    simp [this])
  rw [this]
def workQ (l : List Tri) (L : List (List UInt8)) (i q : Nat) : UInt8 := if (q : Int) = 2 * (xAt l i).b then 40 else if (q : Int) = 2 * (xAt l i).b + 1 then letN (idxB L (lookB (xAt l i))) else 41
/-- works of a row are apart -/
def Apart (l : List Tri) (r : List Nat) : Prop := ∀ i ∈ r, ∀ k ∈ r, i ≠ k → (xAt l i).b + 2 ≤ (xAt l k).b ∨ (xAt l k).b + 2 ≤ (xAt l i).b
theorem drawQ_some {r : List Nat} (ha : Apart l r) {q i : Nat} (hi : i ∈ r) (h : inQ l q i = true) : drawQ l L r q = workQ l L i q := by
  unfold drawQ
  cases hf : r.find? (fun i => decide (2 * (xAt l i).b ≤ (q : Int)) && decide ((q : Int) ≤ 2 * (xAt l i).b + 2)) with
  | none => exact absurd h (by have := List.find?_eq_none.1 hf i hi; unfold inQ; simpa using this)
  | some k =>
    have hk := List.mem_of_find?_eq_some hf
    have hp := List.find?_some hf
    have hkq : inQ l q k = true := hp
    have e : i = k := Classical.byContradiction fun hne => by
      rw [inQ_iff] at h hkq
      have := ha i hi k hk hne
      omega
    subst e
    rfl
theorem drawQ_snoc {r : List Nat} {i : Nat} (ha : Apart l (r ++ [i])) (hni : i ∉ r) (q : Nat) : drawQ l L (r ++ [i]) q = if inQ l q i = true then workQ l L i q else drawQ l L r q := by
  by_cases h : inQ l q i = true
  · rw [if_pos h]; exact drawQ_some l L ha (by simp) h
  · rw [if_neg h]
    have har : Apart l r := fun a ha' b hb hne => ha a (by simp [ha']) b (by simp [hb]) hne
    by_cases hx : ∃ k ∈ r, inQ l q k = true
    · obtain ⟨k, hk, hkq⟩ := hx
      rw [drawQ_some l L ha (show k ∈ r ++ [i] by simp [hk]) hkq, drawQ_some l L har hk hkq]
    · have hn : ∀ k ∈ r, inQ l q k = false := fun k hk => by
        cases hv : inQ l q k with
        | false => rfl
        | true => exact absurd ⟨k, hk, hv⟩ hx
      rw [drawQ_none l L hn, drawQ_none l L (fun k hk => by
        rcases List.mem_append.1 hk with hk | hk
        · exact hn k hk
        · simp at hk; subst hk; simpa using h)]
theorem range_map_add (f : Nat → UInt8) (n k : Nat) : (List.range (n + k)).map f = (List.range n).map f ++ (List.range k).map (fun j => f (n + j)) := by
  rw [List.range_add, List.map_append, List.map_map]; rfl
/-- what stands between two places -/
def sepB (p : Nat) : List UInt8 := if p = 0 then [] else [32]
/-- a place that is no work's -/
theorem draw_free {p : Nat} {r : List Nat} (h1 : ∀ i ∈ r, (xAt l i).b ≠ (p : Int)) (h2 : ∀ i ∈ r, (xAt l i).b + 1 ≠ (p : Int)) :
    (List.range (2 * (p + 1) - 1)).map (drawQ l L r) = (List.range (2 * p - 1)).map (drawQ l L r) ++ sepB p ++ [124] := by
  have a1 : drawQ l L r (2 * p) = 124 := by
    rw [drawQ_none l L (fun i hi => by
      have x1 := h1 i hi; have x2 := h2 i hi
      cases hv : inQ l (2 * p) i with
      | false => rfl
      | true => rw [inQ_iff] at hv; omega)]
    rw [if_pos (by omega)]
  by_cases hp : p = 0
  · subst hp
    simp [List.range_succ, sepB]
    simpa using a1
  · have a2 : drawQ l L r (2 * p - 1) = 32 := by
      rw [drawQ_none l L (fun i hi => by
        have x1 := h1 i hi; have x2 := h2 i hi
        cases hv : inQ l (2 * p - 1) i with
        | false => rfl
        | true => rw [inQ_iff] at hv; omega)]
      rw [if_neg (by omega)]
    unfold sepB
    rw [if_neg hp, show 2 * (p + 1) - 1 = (2 * p - 1) + 2 by omega, range_map_add]
    have e2 : 2 * p - 1 + 1 = 2 * p := by omega
    simp [List.range_succ, a2, e2, a1]
/-- a place that is the left one of a work -/
theorem draw_work {p : Nat} {r : List Nat} (ha : Apart l r) {i : Nat} (hi : i ∈ r) (hb : (xAt l i).b = (p : Int)) (h2 : ∀ i ∈ r, (xAt l i).b + 1 ≠ (p : Int)) :
    (List.range (2 * (p + 2) - 1)).map (drawQ l L r) = (List.range (2 * p - 1)).map (drawQ l L r) ++ sepB p ++ [40, letN (idxB L (lookB (xAt l i))), 41] := by
  have a0 : drawQ l L r (2 * p) = 40 := by
    rw [drawQ_some l L ha hi (by rw [inQ_iff]; omega)]; unfold workQ; rw [if_pos (by omega)]
  have a1 : drawQ l L r (2 * p + 1) = letN (idxB L (lookB (xAt l i))) := by
    rw [drawQ_some l L ha hi (by rw [inQ_iff]; omega)]; unfold workQ; rw [if_neg (by omega), if_pos (by omega)]
  have a2 : drawQ l L r (2 * p + 2) = 41 := by
    rw [drawQ_some l L ha hi (by rw [inQ_iff]; omega)]; unfold workQ; rw [if_neg (by omega), if_neg (by omega)]
  by_cases hp : p = 0
  · subst hp
    simp at a0 a1 a2
    simp [List.range_succ, sepB, a0, a1, a2]
  · have a3 : drawQ l L r (2 * p - 1) = 32 := by
      rw [drawQ_none l L (fun k hk => by
        have x2 := h2 k hk
        have x3 := fun hne => ha i hi k hk hne
        cases hv : inQ l (2 * p - 1) k with
        | false => rfl
        | true =>
          rw [inQ_iff] at hv
          by_cases hne : i = k
          · subst hne; omega
          · have := x3 hne; omega)]
      rw [if_neg (by omega)]
    unfold sepB
    rw [if_neg hp, show 2 * (p + 2) - 1 = (2 * p - 1) + 4 by omega, range_map_add]
    have e2 : 2 * p - 1 + 1 = 2 * p := by omega
    have e3 : 2 * p - 1 + 2 = 2 * p + 1 := by omega
    have e4 : 2 * p - 1 + 3 = 2 * p + 2 := by omega
    simp [List.range_succ, a3, e2, e3, e4, a0, a1, a2]
end
theorem rowS_apart (p : Nat) (l : List Tri) (m n : Nat) : Apart l (rowS p l (levL l m) n) := fun i hi k hk hne => by
  have hl := levL_len l m
  have h1 := rowS_mem.1 hi
  have h2 := rowS_mem.1 hk
  rw [hl] at h1 h2
  exact row_apart l h1.1 h2.1 (h1.2.1.trans h2.2.1.symm) hne
end Go.Proofs.YtoccplfnjammjaaGreatDoor
