/- Plain: a fault is listed exactly if it is accepted; faults of letters, in different steps, may be put in either order. -/
import Derived.Test.YtblifdchofihoaaAllP
set_option linter.unusedSimpArgs false
set_option linter.unusedVariables false
namespace Go.Proofs.Ytblifdchofihoaa
open Go Go.RowKit Tor

theorem mem_allF {p s : Int} {l : List Tri} {f : Flt} : f ∈ allF p s l ↔ okF p s l f = true := by
  constructor
  · intro h
    unfold allF refI refK refN at h
    simp only [List.mem_flatMap, List.mem_filter] at h
    obtain ⟨_, _, _, _, _, _, _, h⟩ := h
    exact h
  · intro h
    obtain ⟨h1, h2, _, _⟩ := okF_parts h
    have hst := fits_step h2
    obtain ⟨hw, hk, h4⟩ := shaped_withs h1
    obtain ⟨k, st, lt, wi⟩ := f
    simp only at hst hw hk h4
    obtain ⟨i, rfl⟩ : ∃ i : Nat, st = i := ⟨st.toNat, by omega⟩
    have hlt : 0 ≤ lt := by
      unfold fitsF at h2
      simp only [Bool.and_eq_true] at h2
      have h2 := h2.2
      simp only [kindsR, List.mem_cons, List.not_mem_nil, or_false] at hk
      rcases hk with rfl | rfl | rfl | rfl | rfl | rfl
      · simp at h2; omega
      · simp at h2; omega
      · simp at h2; omega
      · have := h4 (by omega); omega
      · have := h4 (by omega); omega
      · have := h4 (by omega); omega
    obtain ⟨n, rfl⟩ : ∃ n : Nat, lt = n := ⟨lt.toNat, by omega⟩
    have hl := ok_letter h
    rw [allF_eq]
    simp only [List.mem_flatMap]
    refine ⟨i, List.mem_range.2 (by simpa using hst.2.1), k, hk, ?_⟩
    unfold proK proN
    simp only [List.mem_flatMap, List.mem_filter, List.mem_map, List.mem_range]
    exact ⟨n, by omega, ⟨wi, hw, rfl⟩, h⟩

def wordK (f : Flt) : Bool := decide (f.k = 1 ∨ f.k = 2 ∨ f.k = 3)
def newW (s : ByteArray) (f : Flt) : ByteArray :=
  if f.k = 1 then cutW s f.lt.toNat 1 .empty else if f.k = 2 then cutW s f.lt.toNat 0 ⟨#[f.wi.toNat.toUInt8]⟩ else cutW s f.lt.toNat 1 ⟨#[undo (byteAt s f.lt)]⟩
theorem putF_word {l : List Tri} {f : Flt} (h : wordK f = true) : putF l f = setW l f.st.toNat (newW (xAt l f.st.toNat).s f) := by
  have h := of_decide_eq_true h
  obtain ⟨k, st, lt, wi⟩ := f
  simp only at h
  unfold putF newW
  rcases h with rfl | rfl | rfl <;> simp
theorem fits_set {l : List Tri} {i : Nat} {t : ByteArray} {g : Flt} (hg : wordK g = true) (h : g.st.toNat ≠ i) : fitsF (setW l i t) g = fitsF l g := by
  have hg := of_decide_eq_true hg
  obtain ⟨k, st, lt, wi⟩ := g
  simp only at hg h
  unfold fitsF workF setW
  simp only [List.length_set, xAt_set_ne (Ne.symm h)]
  rcases hg with rfl | rfl | rfl <;> simp
theorem setW_comm {l : List Tri} {i j : Nat} {s t : ByteArray} (h : i ≠ j) : setW (setW l i s) j t = setW (setW l j t) i s := by
  unfold setW
  rw [xAt_set_ne h, xAt_set_ne (Ne.symm h), List.set_comm _ _ h]
theorem put_once {p s : Int} {l : List Tri} {f g : Flt} (hf : okF p s l f = true) (hg : okF p s l g = true) (wf : wordK f = true) (wg : wordK g = true) (hne : f.st ≠ g.st) :
    putR p s (putF l f) g = (setW (setW l f.st.toNat (newW (xAt l f.st.toNat).s f)) g.st.toNat (newW (xAt l g.st.toNat).s g), 0) := by
  obtain ⟨f1, f2, f3, f4⟩ := okF_parts hf
  obtain ⟨g1, g2, g3, g4⟩ := okF_parts hg
  have hf0 := fits_step f2
  have hg0 := fits_step g2
  have hn : g.st.toNat ≠ f.st.toNat := by omega
  have hk : g.k ≤ 4 := by have := of_decide_eq_true wg; omega
  unfold putR
  rw [if_neg (by simpa using f4)]
  have e := putF_word (l := l) wf
  have hx : xAt (putF l f) g.st.toNat = xAt l g.st.toNat := by rw [e]; unfold setW; rw [xAt_set_ne (Ne.symm hn)]
  rw [acc_letters f4 g1 (by rw [e, fits_set wg hn]; exact g2) hk (by rw [hx]; exact g3), putF_word wg, hx, e]
theorem put_either {p s : Int} {l : List Tri} {f g : Flt} (hf : okF p s l f = true) (hg : okF p s l g = true) (wf : wordK f = true) (wg : wordK g = true) (hne : f.st ≠ g.st) :
    ∃ M, putR p s (putF l f) g = (M, 0) ∧ putR p s (putF l g) f = (M, 0) := by
  obtain ⟨_, f2, _, _⟩ := okF_parts hf
  obtain ⟨_, g2, _, _⟩ := okF_parts hg
  have hf0 := fits_step f2
  have hg0 := fits_step g2
  refine ⟨_, put_once hf hg wf wg hne, ?_⟩
  rw [put_once hg hf wg wf (Ne.symm hne), setW_comm (by omega)]
end Go.Proofs.Ytblifdchofihoaa
