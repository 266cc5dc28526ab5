/- Plain: sheets that are the same lace; matching by places. -/
import Derived.Test.YtfnklchhhojimaaOldB
set_option linter.unusedSimpArgs false
set_option linter.unusedVariables false
namespace Go.Proofs.Ytfnklchhhojimaa
open Go Go.RowKit Tor

/-- the work that is ready and equal to y -/
def mfind (l : List Tri) (M : List Nat) (y : Tri) : Option Nat :=
  match front (rowsOf l M) y.b.toNat with
  | some i => if xAt l i = y then some i else none
  | none => none
def mgo (l : List Tri) : List Tri → List Nat → Option (List Nat)
  | [], M => some M
  | y :: r, M => match mfind l M y with
    | some i => mgo l r (M ++ [i])
    | none => none
/-- are two sheets of so many pairs the same lace? -/
def traceB (p : Int) (l : List Tri) (q : Int) (m : List Tri) : Bool := decide (p = q) && decide (l.length = m.length) && (mgo l m []).isSome

section
variable {l : List Tri}
theorem mfind_some {M : List Nat} {y : Tri} {i : Nat} (h : mfind l M y = some i) : ∃ hi : i < l.length, l[i] = y ∧ rdyB l M i = true := by
  unfold mfind at h
  split at h
  · rename_i j hf
    split at h
    · rename_i hx
      simp only [Option.some.injEq] at h
      subst h
      obtain ⟨hr, hi, hb⟩ := front_rdy hf
      rw [xAt_of hi] at hx
      exact ⟨hi, hx, (rdyB_iff hi).2 hr⟩
    · cases h
  · cases h
theorem mfind_of {M : List Nat} {y : Tri} {i : Nat} (hi : i < l.length) (hy : l[i] = y) (hr : rdyB l M i = true) (hb : 0 ≤ y.b) : mfind l M y = some i := by
  have h2 := front_of_rdy (a := y.b.toNat) ((rdyB_iff hi).1 hr) (fun _ => by rw [hy]; omega)
  unfold mfind
  simp only [h2]
  rw [xAt_of hi, if_pos hy]
theorem mfind_none {M : List Nat} {y : Tri} (hb : 0 ≤ y.b) (h : mfind l M y = none) (i : Nat) (hi : i < l.length) (hy : l[i] = y) : rdyB l M i = false := by
  cases hr : rdyB l M i
  · rfl
  · rw [mfind_of hi hy hr hb] at h; cases h

theorem mgo_lin : ∀ (m : List Tri) (M O : List Nat), mgo l m M = some O → ∃ R, O = M ++ R ∧ R.length = m.length ∧ LinExt l M R ∧ m = R.map (xAt l)
  | [], M, O, h => by
    simp only [mgo, Option.some.injEq] at h
    exact ⟨[], by simp [h], rfl, trivial, rfl⟩
  | y :: r, M, O, h => by
    unfold mgo at h
    cases hf : mfind l M y with
    | none => rw [hf] at h; cases h
    | some i =>
      rw [hf] at h
      obtain ⟨hi, hy, hr⟩ := mfind_some hf
      obtain ⟨R, h1, h2, h3, h4⟩ := mgo_lin r (M ++ [i]) O h
      refine ⟨i :: R, by rw [h1]; simp, by simp [h2], ⟨hi, hr, h3⟩, ?_⟩
      rw [List.map_cons, xAt_of hi, hy, ← h4]
theorem mgo_of : ∀ (R M : List Nat), (∀ (k : Nat) (hk : k < l.length), 0 ≤ l[k].b) → LinExt l M R → mgo l (R.map (xAt l)) M = some (M ++ R)
  | [], M, _, _ => by simp [mgo]
  | i :: R, M, hb, h => by
    obtain ⟨hi, hr, hrest⟩ := h
    rw [List.map_cons, mgo, xAt_of hi, mfind_of hi rfl hr (hb i hi)]
    simp only
    rw [mgo_of R (M ++ [i]) hb hrest]
    simp

/-- the same lace: one sheet is an order of the other one -/
def TrEq (l m : List Tri) : Prop := ∃ A, LinExt l [] A ∧ A.length = l.length ∧ m = A.map (xAt l)
theorem TrEq.refl (l : List Tri) : TrEq l l := ⟨_, lin_id, by simp, map_id'.symm⟩
theorem TrEq.euclid {l m n : List Tri} (h1 : TrEq l m) (h2 : TrEq l n) : TrEq m n := by
  obtain ⟨A, hA, hl, rfl⟩ := h1
  obtain ⟨B, hB, hlB, rfl⟩ := h2
  have hc := lin_comp hA hl B [] (by simp) hB
  exact ⟨_, by simpa using hc, by rw [List.length_map, List.length_map, hlB, hl], (comp_map hA hl (fun i hi => lin_lt B [] hB i hi)).symm⟩
theorem TrEq.symm {l m : List Tri} (h : TrEq l m) : TrEq m l := h.euclid (TrEq.refl l)
theorem TrEq.trans {l m n : List Tri} (h1 : TrEq l m) (h2 : TrEq m n) : TrEq l n := h1.symm.euclid h2
theorem TrEq.len {l m : List Tri} (h : TrEq l m) : m.length = l.length := by
  obtain ⟨A, _, hl, rfl⟩ := h
  rw [List.length_map, hl]

theorem traceB_iff {p q : Int} {m : List Tri} (hb : ∀ (k : Nat) (hk : k < l.length), 0 ≤ l[k].b) : traceB p l q m = true ↔ p = q ∧ TrEq l m := by
  unfold traceB
  simp only [Bool.and_eq_true, decide_eq_true_eq, Option.isSome_iff_exists]
  constructor
  · rintro ⟨⟨h1, h2⟩, O, h3⟩
    obtain ⟨R, h4, h5, h6, h7⟩ := mgo_lin m [] O h3
    exact ⟨h1, _, h6, by rw [h5, h2], h7⟩
  · rintro ⟨h1, A, h2, h3, rfl⟩
    exact ⟨⟨h1, by rw [List.length_map, h3]⟩, _, mgo_of A [] hb h2⟩
end
end Go.Proofs.Ytfnklchhhojimaa
