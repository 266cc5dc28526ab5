/- Plain: faults of letters, and a step that is left out, are always accepted. -/
import Derived.Test.YtblifdchofihoaaBackM
set_option linter.unusedSimpArgs false
set_option linter.unusedVariables false
namespace Go.Proofs.Ytblifdchofihoaa
open Go Go.RowKit Tor

theorem fine_n {p s h n n' : Int} {x : Tri} (f : Fine p s h n x) (hn : n' ≤ n) : Fine p s h n' x := ⟨f.sh, f.w, f.b0, f.b1, f.r, f.held, fun ha => by have := f.n ha; omega⟩
theorem okS_n {p s : Int} : ∀ (l : List Tri) (h n n' : Int), n' ≤ n → okS p s h n l → okS p s h n' l
  | [], _, _, _, _, _ => trivial
  | x :: r, h, n, n', hn, hok => by
    unfold okS at hok ⊢
    refine ⟨fine_n hok.1 hn, ?_⟩
    have h2 := hok.2
    by_cases ha : x.a = 1
    · rw [if_pos ha] at h2 ⊢; exact okS_n r _ _ _ hn h2
    · rw [if_neg ha] at h2 ⊢; exact okS_n r _ _ _ (by omega) h2
/-- another word of a work -/
theorem okS_set {p s : Int} : ∀ (l : List Tri) (h n : Int) (i : Nat) (t : ByteArray), okS p s h n l → (hi : i < l.length) → l[i].a ≠ 1 → wordE t = 0 → shapedB ⟨l[i].a, l[i].b, t⟩ = true → okS p s h n (l.set i ⟨l[i].a, l[i].b, t⟩)
  | [], _, _, _, _, _, hi, _, _, _ => by simp at hi
  | x :: r, h, n, 0, t, hok, _, ha, hw, hs => by
    simp only [List.getElem_cons_zero] at ha hs
    unfold okS at hok
    rw [List.set_cons_zero]
    unfold okS
    simp only [List.getElem_cons_zero]
    have h2 := hok.2
    rw [if_neg ha] at h2
    rw [if_neg ha]
    exact ⟨⟨hs, hw, hok.1.b0, hok.1.b1, hok.1.r, hok.1.held, hok.1.n⟩, h2⟩
  | x :: r, h, n, i + 1, t, hok, hi, ha, hw, hs => by
    unfold okS at hok
    rw [List.set_cons_succ]
    unfold okS
    refine ⟨hok.1, ?_⟩
    have h2 := hok.2
    simp only [List.getElem_cons_succ] at ha hs ⊢
    by_cases hx : x.a = 1
    · rw [if_pos hx] at h2 ⊢; exact okS_set r _ _ i t h2 (by simpa using hi) ha hw hs
    · rw [if_neg hx] at h2 ⊢; exact okS_set r _ _ i t h2 (by simpa using hi) ha hw hs
/-- without a work -/
theorem okS_erase {p s : Int} : ∀ (l : List Tri) (h n : Int) (i : Nat), okS p s h n l → (hi : i < l.length) → l[i].a ≠ 1 → okS p s h n (l.eraseIdx i)
  | [], _, _, _, _, hi, _ => by simp at hi
  | x :: r, h, n, 0, hok, _, ha => by
    simp only [List.getElem_cons_zero] at ha
    unfold okS at hok
    have h2 := hok.2
    rw [if_neg ha] at h2
    rw [List.eraseIdx_cons_zero]
    exact okS_n r _ _ _ (by omega) h2
  | x :: r, h, n, i + 1, hok, hi, ha => by
    unfold okS at hok
    have h2 := hok.2
    simp only [List.getElem_cons_succ] at ha
    rw [List.eraseIdx_cons_succ]
    unfold okS
    refine ⟨hok.1, ?_⟩
    by_cases hx : x.a = 1
    · rw [if_pos hx] at h2 ⊢; exact okS_erase r _ _ i h2 (by simpa using hi) ha
    · rw [if_neg hx] at h2 ⊢; exact okS_erase r _ _ i h2 (by simpa using hi) ha

theorem set_word_ok {p s : Int} {l : List Tri} {n : Nat} {t : ByteArray} (h : (sheetR p s l).2.2.2 = 0) (hn : n < l.length) (ha : (xAt l n).a ≠ 1) (hw : wordE t = 0) (hs : shapedB ⟨(xAt l n).a, (xAt l n).b, t⟩ = true) : (sheetR p s (setW l n t)).2.2.2 = 0 := by
  obtain ⟨r1, r2, r3, _⟩ := sheetR_inv h
  rw [xAt_of hn] at ha hs
  have := okS_set l _ _ n t r3 hn ha hw hs
  unfold setW
  rw [xAt_of hn, sheetR_ok r1 (by simpa using r2) this]
theorem erase_ok {p s : Int} {l : List Tri} {n : Nat} (h : (sheetR p s l).2.2.2 = 0) (hn : n < l.length) (ha : (xAt l n).a ≠ 1) : (sheetR p s (l.eraseIdx n)).2.2.2 = 0 := by
  obtain ⟨r1, r2, r3, _⟩ := sheetR_inv h
  rw [xAt_of hn] at ha
  rw [sheetR_ok r1 (by rw [List.length_eraseIdx]; split <;> omega) (okS_erase l _ _ n r3 hn ha)]

theorem word_of_letters {s : ByteArray} (h1 : s.size ≤ 16) (h2 : ∀ c ∈ s.data.toList, isLetter c = true) : wordE s = 0 := wordE_of h1 (List.all_eq_true.2 h2)
theorem fault_letter {wi : Int} (h : wi ∈ faultLetters) : isLetter wi.toNat.toUInt8 = true := by
  simp only [faultLetters, List.mem_cons, List.not_mem_nil, or_false] at h
  rcases h with rfl | rfl | rfl | rfl | rfl | rfl | rfl | rfl | rfl <;> decide
theorem undo_letter {c : UInt8} (h : isLetter c = true) : isLetter (undo c) = true := by
  rcases letters_cases h with rfl | rfl | rfl | rfl | rfl | rfl | rfl | rfl | rfl <;> decide
theorem shape_any {x : Tri} (h : shapedB x = true) (ha : x.a = 2) (t : ByteArray) : shapedB ⟨x.a, x.b, t⟩ = true := by unfold shapedB; simp [ha]

/-- faults of letters and a step left out: accepted as soon as they fit -/
theorem acc_letters {p s : Int} {l : List Tri} {f : Flt} (h : (sheetR p s l).2.2.2 = 0) (hsh : shapedF f = true) (hfit : fitsF l f = true) (hk : f.k ≤ 4) (hfull : ¬ (f.k = 2 ∧ (xAt l f.st.toNat).s.size = 16)) : accF p s l f = (putF l f, 0) := by
  refine accF_of hsh hfit hfull ?_
  have hst := fits_step hfit
  have hins := ins_ok h
  obtain ⟨k, st, lt, wi⟩ := f
  simp only at hst hfull hk
  obtain ⟨n, rfl⟩ : ∃ n : Nat, st = n := ⟨st.toNat, by omega⟩
  rw [Int.toNat_natCast] at hst hfull
  have hn := hst.2.1
  have hwd := word_letters (hins.w n hn)
  have hshape := ins_shape h l[n] (List.getElem_mem hn)
  rw [← xAt_of hn] at hwd hshape
  have hlen : (xAt l n).s.data.toList.length = (xAt l n).s.size := bsize _
  have hk6 : k = 1 ∨ k = 2 ∨ k = 3 ∨ k = 4 := by
    unfold shapedF at hsh
    simp only at hsh
    apply Classical.byContradiction; intro hc
    rw [if_neg (by omega), if_neg (by omega), if_neg (by omega)] at hsh
    split at hsh
    · omega
    · cases hsh
  rcases hk6 with rfl | rfl | rfl | rfl
  · simp [fitsF] at hfit
    obtain ⟨m, rfl⟩ : ∃ m : Nat, lt = m := ⟨lt.toNat, by omega⟩
    have hm : m + 1 ≤ (xAt l n).s.size := by omega
    rw [putF_miss]
    refine set_word_ok h hn hst.2.2 (word_of_letters ?_ ?_) (shape_any hshape (shape_word hshape (by omega)) _)
    · rw [← bsize, cutW_data _ _ _ _ hm]; simp only [List.length_append, List.length_take, List.length_drop]; have : ByteArray.empty.data.toList.length = 0 := rfl; omega
    · intro c hc
      rw [cutW_data _ _ _ _ hm] at hc
      simp only [List.mem_append] at hc
      rcases hc with (hc | hc) | hc
      · exact hwd.2 _ (List.mem_of_mem_take hc)
      · have : ByteArray.empty.data.toList = [] := rfl
        rw [this] at hc; simp at hc
      · exact hwd.2 _ (List.mem_of_mem_drop hc)
  · simp [fitsF] at hfit
    obtain ⟨m, rfl⟩ : ∃ m : Nat, lt = m := ⟨lt.toNat, by omega⟩
    have hm : m + 0 ≤ (xAt l n).s.size := by omega
    have hwi : wi ∈ faultLetters := by simp [shapedF] at hsh; exact hsh
    rw [putF_extra]
    refine set_word_ok h hn hst.2.2 (word_of_letters ?_ ?_) (shape_any hshape (by omega) _)
    · rw [← bsize, cutW_data _ _ _ _ hm]; simp only [List.length_append, List.length_take, List.length_drop, List.length_cons, List.length_nil]; omega
    · intro c hc
      rw [cutW_data _ _ _ _ hm] at hc
      simp only [List.mem_append, List.mem_cons, List.not_mem_nil, or_false] at hc
      rcases hc with (hc | rfl) | hc
      · exact hwd.2 _ (List.mem_of_mem_take hc)
      · exact fault_letter hwi
      · exact hwd.2 _ (List.mem_of_mem_drop hc)
  · simp [fitsF] at hfit
    obtain ⟨m, rfl⟩ : ∃ m : Nat, lt = m := ⟨lt.toNat, by omega⟩
    have hm : m + 1 ≤ (xAt l n).s.size := by omega
    have hmL : m < (xAt l n).s.data.toList.length := by omega
    rw [putF_turn, byteAt_of hmL]
    refine set_word_ok h hn hst.2.2 (word_of_letters ?_ ?_) (shape_any hshape (shape_word hshape (by omega)) _)
    · rw [← bsize, cutW_data _ _ _ _ hm]; simp only [List.length_append, List.length_take, List.length_drop, List.length_cons, List.length_nil]; omega
    · intro c hc
      rw [cutW_data _ _ _ _ hm] at hc
      simp only [List.mem_append, List.mem_cons, List.not_mem_nil, or_false] at hc
      rcases hc with (hc | rfl) | hc
      · exact hwd.2 _ (List.mem_of_mem_take hc)
      · exact undo_letter (hwd.2 _ (List.getElem_mem hmL))
      · exact hwd.2 _ (List.mem_of_mem_drop hc)
  · rw [putF_skip]
    exact erase_ok h hn hst.2.2
end Go.Proofs.Ytblifdchofihoaa
