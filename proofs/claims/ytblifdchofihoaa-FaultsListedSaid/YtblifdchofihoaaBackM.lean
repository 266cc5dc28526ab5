/- Plain: faults that undo faults; when an exchange of two steps is seen. -/
import Derived.Test.YtblifdchofihoaaSeen2
import Derived.Test.YtblifdchofihoaaTrSwap
import Derived.Test.YtblifdchofihoaaPutM
set_option linter.unusedSimpArgs false
set_option linter.unusedVariables false
namespace Go.Proofs.Ytblifdchofihoaa
open Go Go.RowKit Tor

/-- the fault that undoes another one -/
def backF (l : List Tri) (f : Flt) : Flt :=
  if f.k = 1 then ⟨2, f.st, f.lt, (byteAt (xAt l f.st.toNat).s f.lt).toNat⟩
  else if f.k = 2 then ⟨1, f.st, f.lt, 0⟩
  else if f.k = 5 then ⟨5, f.st, 0, -f.wi⟩
  else f

theorem bext {a b : ByteArray} (h : a.data.toList = b.data.toList) : a = b := ByteArray.ext (Array.ext' h)
theorem cutW_data (s : ByteArray) (k g : Nat) (x : ByteArray) (hk : k + g ≤ s.size) : (cutW s k g x).data.toList = s.data.toList.take k ++ x.data.toList ++ s.data.toList.drop (k + g) := by
  have hs : s.data.toList.length = s.size := bsize s
  unfold cutW
  rw [ByteArray.data_append, ByteArray.data_append, ByteArray.data_extract, ByteArray.data_extract]
  simp only [Array.toList_append, Array.toList_extract, List.extract_eq_take_drop, List.drop_zero, Nat.sub_zero]
  congr 1
  rw [List.take_of_length_le (by rw [List.length_drop, hs]; omega)]
theorem okS_shape {p s : Int} : ∀ (g : List Tri) (h n : Int), okS p s h n g → ∀ x ∈ g, shapedB x = true
  | [], _, _, _, x, hx => by simp at hx
  | y :: r, h, n, hok, x, hx => by
    unfold okS at hok
    rcases List.mem_cons.1 hx with rfl | hx
    · exact hok.1.sh
    · by_cases ha : y.a = 1
      · rw [if_pos ha] at hok; exact okS_shape r _ _ hok.2 x hx
      · rw [if_neg ha] at hok; exact okS_shape r _ _ hok.2 x hx
theorem ins_shape {p s : Int} {l : List Tri} (h : (sheetR p s l).2.2.2 = 0) : ∀ x ∈ l, shapedB x = true := okS_shape l _ _ (sheetR_inv h).2.2.1
theorem shape_word {x : Tri} (h : shapedB x = true) (hs : x.s.size ≠ 0) : x.a = 2 := by
  unfold shapedB at h
  simp only [Bool.or_eq_true, Bool.and_eq_true, decide_eq_true_eq] at h
  rcases h with h | ⟨_, h⟩
  · exact h
  · exact absurd h hs
theorem word_letters {s : ByteArray} (h : wordE s = 0) : s.size ≤ 16 ∧ ∀ c ∈ s.data.toList, isLetter c = true := by
  unfold wordE at h
  split at h
  · cases h
  · split at h
    · rename_i h1 h2
      exact ⟨by omega, List.all_eq_true.1 h2⟩
    · cases h
theorem letter_in {c : UInt8} (h : isLetter c = true) : (c.toNat : Int) ∈ faultLetters := by
  rcases letters_cases h with rfl | rfl | rfl | rfl | rfl | rfl | rfl | rfl | rfl <;> decide
theorem letter_undo {c : UInt8} (h : isLetter c = true) : undo (undo c) = c ∧ (c ≠ 80 → undo c ≠ 80) ∧ c.toNat.toUInt8 = c := by
  rcases letters_cases h with rfl | rfl | rfl | rfl | rfl | rfl | rfl | rfl | rfl <;> decide
theorem byteAt_of {s : ByteArray} {n : Nat} (h : n < s.data.toList.length) : byteAt s (n : Int) = s.data.toList[n] := by
  unfold byteAt
  rw [Int.toNat_natCast, List.getD_eq_getElem?_getD, List.getElem?_eq_getElem h]; rfl
theorem take_mid_drop (s : List UInt8) (n : Nat) (h : n < s.length) : s.take n ++ [s[n]] ++ s.drop (n + 1) = s := by
  rw [List.append_assoc, List.singleton_append, ← List.drop_eq_getElem_cons h, List.take_append_drop]

theorem setW_setW (l : List Tri) (n : Nat) (s t : ByteArray) (hn : n < l.length) (ht : t = (xAt l n).s) : setW (setW l n s) n t = l := by
  subst ht
  unfold setW
  rw [xAt_set hn, List.set_set]
  simp only
  rw [xAt_of hn]
  exact List.set_getElem_self hn

theorem set_xAt (l : List Tri) (n : Nat) (hn : n < l.length) : l.set n (xAt l n) = l := by
  rw [xAt_of hn]; exact List.set_getElem_self hn

theorem accF_of {p s : Int} {l : List Tri} {f : Flt} (h1 : shapedF f = true) (h2 : fitsF l f = true) (h3 : ¬ (f.k = 2 ∧ (xAt l f.st.toNat).s.size = 16)) (h4 : (sheetR p s (putF l f)).2.2.2 = 0) : accF p s l f = (putF l f, 0) := by
  unfold accF
  rw [if_neg (by simp [h1]), if_neg (by simp [h2]), if_neg h3, if_neg (by simp [h4])]

theorem workF_set {l : List Tri} {n : Nat} {y : Tri} (hn : n < l.length) (hy : y.a ≠ 1) : workF (l.set n y) (n : Int) = true := by
  rw [workF_iff (by simpa using hn)]
  simp [hy]

theorem back_put {p s : Int} {l : List Tri} {f : Flt} (h : PutOk p s l f) (hk : f.k ≠ 4) : putR p s (putF l f) (backF l f) = (l, 0) := by
  have hst := fits_step h.fit
  have hsh := h.sh
  have hfit := h.fit
  have hok2 := h.ok2
  have hfull := h.full
  have hins := ins_ok h.ok
  obtain ⟨k, st, lt, wi⟩ := f
  simp only at hst hfit hfull hk
  obtain ⟨n, rfl⟩ : ∃ n : Nat, st = n := ⟨st.toNat, by omega⟩
  rw [Int.toNat_natCast] at hst hfull
  have hn := hst.2.1
  have hxa : xAt l n = l[n] := xAt_of hn
  have hwd := word_letters (hins.w n hn)
  have hshape := ins_shape h.ok l[n] (List.getElem_mem hn)
  rw [← hxa] at hwd hshape
  have hk6 : k = 1 ∨ k = 2 ∨ k = 3 ∨ k = 5 ∨ k = 6 := by
    unfold shapedF at hsh
    simp only at hsh
    apply Classical.byContradiction; intro hc
    rw [if_neg (by omega), if_neg (by omega), if_neg (by omega), if_neg (by omega)] at hsh; cases hsh
  have hwk : workF l n = true := by
    unfold fitsF at hfit
    rw [Bool.and_eq_true] at hfit; exact hfit.1
  suffices hsuf : shapedF (backF l ⟨k, n, lt, wi⟩) = true ∧ fitsF (putF l ⟨k, n, lt, wi⟩) (backF l ⟨k, n, lt, wi⟩) = true ∧ ¬ ((backF l ⟨k, n, lt, wi⟩).k = 2 ∧ (xAt (putF l ⟨k, n, lt, wi⟩) n).s.size = 16) ∧ putF (putF l ⟨k, n, lt, wi⟩) (backF l ⟨k, n, lt, wi⟩) = l by
    obtain ⟨a1, a2, a3, a4⟩ := hsuf
    have hbs : (backF l ⟨k, n, lt, wi⟩).st = n := by unfold backF; (repeat' split) <;> rfl
    unfold putR
    rw [if_neg (by simp [hok2]), accF_of a1 a2 (by rw [hbs, Int.toNat_natCast]; exact a3) (by rw [a4]; exact h.ok), a4]
  unfold shapedF at hsh
  unfold fitsF at hfit
  simp only [hwk, Bool.true_and, Int.toNat_natCast] at hsh hfit
  have hlen : (xAt l n).s.data.toList.length = (xAt l n).s.size := bsize _
  rcases hk6 with rfl | rfl | rfl | rfl | rfl
  · -- miss
    simp only [if_true] at hfit
    have hlt := of_decide_eq_true hfit
    obtain ⟨m, rfl⟩ : ∃ m : Nat, lt = m := ⟨lt.toNat, by omega⟩
    have hm : m < (xAt l n).s.data.toList.length := by omega
    have hb := byteAt_of hm
    have hlet := hwd.2 _ (List.getElem_mem hm)
    have eP : putF l ⟨1, n, m, wi⟩ = setW l n (cutW (xAt l n).s m 1 .empty) := by unfold putF; simp
    have eB : backF l ⟨1, n, m, wi⟩ = ⟨2, n, m, (byteAt (xAt l n).s m).toNat⟩ := by unfold backF; simp
    have eX : xAt (setW l n (cutW (xAt l n).s m 1 .empty)) n = ⟨(xAt l n).a, (xAt l n).b, cutW (xAt l n).s m 1 .empty⟩ := xAt_set hn
    have hcd : (cutW (xAt l n).s m 1 .empty).data.toList = (xAt l n).s.data.toList.take m ++ (xAt l n).s.data.toList.drop (m + 1) := by
      rw [cutW_data _ _ _ _ (by omega)]; simp
    have hcs : (cutW (xAt l n).s m 1 .empty).size = (xAt l n).s.size - 1 := by
      rw [← bsize, hcd, List.length_append, List.length_take, List.length_drop]; omega
    rw [eP, eB]
    refine ⟨?_, ?_, ?_, ?_⟩
    · rw [hb]
      exact decide_eq_true (letter_in hlet)
    · have h1 : workF (setW l n (cutW (xAt l n).s m 1 .empty)) n = true := workF_set hn hst.2.2
      have h2 := shape_word hshape (by omega)
      simp only [fitsF, Int.toNat_natCast, eX, h1, h2, hcs]
      simp; omega
    · rw [eX]; simp only [hcs]; omega
    · rw [putF_extra, eX]
      refine setW_setW _ _ _ _ hn (bext ?_)
      simp only
      rw [cutW_data _ _ _ _ (by omega), hcd, hb]
      have : ((xAt l n).s.data.toList.take m).length = m := by rw [List.length_take]; omega
      rw [List.take_left' this, List.drop_left' (by omega), Int.toNat_natCast, (letter_undo hlet).2.2]
      exact take_mid_drop _ _ hm
  · -- extra
    rw [if_neg (by omega), if_neg (by omega), if_pos rfl, Bool.and_eq_true] at hfit
    have hlt := of_decide_eq_true hfit.2
    obtain ⟨m, rfl⟩ : ∃ m : Nat, lt = m := ⟨lt.toNat, by omega⟩
    have eP : putF l ⟨2, n, m, wi⟩ = setW l n (cutW (xAt l n).s m 0 ⟨#[wi.toNat.toUInt8]⟩) := by unfold putF; simp
    have eB : backF l ⟨2, n, m, wi⟩ = ⟨1, n, m, 0⟩ := by unfold backF; simp
    have eX : xAt (setW l n (cutW (xAt l n).s m 0 ⟨#[wi.toNat.toUInt8]⟩)) n = ⟨(xAt l n).a, (xAt l n).b, cutW (xAt l n).s m 0 ⟨#[wi.toNat.toUInt8]⟩⟩ := xAt_set hn
    have hcd : (cutW (xAt l n).s m 0 ⟨#[wi.toNat.toUInt8]⟩).data.toList = (xAt l n).s.data.toList.take m ++ [wi.toNat.toUInt8] ++ (xAt l n).s.data.toList.drop m := by
      rw [cutW_data _ _ _ _ (by omega)]; rfl
    have hcs : (cutW (xAt l n).s m 0 ⟨#[wi.toNat.toUInt8]⟩).size = (xAt l n).s.size + 1 := by
      rw [← bsize, hcd, List.length_append, List.length_append, List.length_take, List.length_drop]; simp; omega
    rw [eP, eB]
    refine ⟨rfl, ?_, by simp, ?_⟩
    · have h1 : workF (setW l n (cutW (xAt l n).s m 0 ⟨#[wi.toNat.toUInt8]⟩)) n = true := workF_set hn hst.2.2
      simp only [fitsF, Int.toNat_natCast, eX, h1, hcs]
      simp; omega
    · rw [putF_miss, eX]
      refine setW_setW _ _ _ _ hn (bext ?_)
      simp only
      rw [cutW_data _ _ _ _ (by omega), hcd]
      have h1 : ((xAt l n).s.data.toList.take m).length = m := by rw [List.length_take]; omega
      have h2 : ((xAt l n).s.data.toList.take m ++ [wi.toNat.toUInt8]).length = m + 1 := by rw [List.length_append, h1]; rfl
      rw [List.drop_left' h2, List.append_assoc ((xAt l n).s.data.toList.take m), List.take_left' h1]
      simp
  · -- turn
    rw [if_neg (by omega), if_pos rfl, Bool.and_eq_true] at hfit
    have hlt := of_decide_eq_true hfit.1
    have hne := of_decide_eq_true hfit.2
    obtain ⟨m, rfl⟩ : ∃ m : Nat, lt = m := ⟨lt.toNat, by omega⟩
    have hm : m < (xAt l n).s.data.toList.length := by omega
    have hb := byteAt_of hm
    have hlet := hwd.2 _ (List.getElem_mem hm)
    rw [hb] at hne
    obtain ⟨c, hc⟩ : ∃ c, (xAt l n).s.data.toList[m] = c := ⟨_, rfl⟩
    rw [hc] at hb hlet hne
    have eP : putF l ⟨3, n, m, wi⟩ = setW l n (cutW (xAt l n).s m 1 ⟨#[undo c]⟩) := by unfold putF; simp [hb]
    have eB : backF l ⟨3, n, m, wi⟩ = ⟨3, n, m, wi⟩ := by unfold backF; simp
    have eX : xAt (setW l n (cutW (xAt l n).s m 1 ⟨#[undo c]⟩)) n = ⟨(xAt l n).a, (xAt l n).b, cutW (xAt l n).s m 1 ⟨#[undo c]⟩⟩ := xAt_set hn
    have hcd : (cutW (xAt l n).s m 1 ⟨#[undo c]⟩).data.toList = (xAt l n).s.data.toList.take m ++ [undo c] ++ (xAt l n).s.data.toList.drop (m + 1) := by
      rw [cutW_data _ _ _ _ (by omega)]
    have h1 : ((xAt l n).s.data.toList.take m).length = m := by rw [List.length_take]; omega
    have h2 : ((xAt l n).s.data.toList.take m ++ [undo c]).length = m + 1 := by rw [List.length_append, h1]; rfl
    have hcs : (cutW (xAt l n).s m 1 ⟨#[undo c]⟩).size = (xAt l n).s.size := by
      rw [← bsize, hcd, List.length_append, h2, List.length_drop, hlen]; omega
    have hcb : byteAt (cutW (xAt l n).s m 1 ⟨#[undo c]⟩) m = undo c := by
      rw [byteAt_of (by rw [bsize]; omega)]
      have : (cutW (xAt l n).s m 1 ⟨#[undo c]⟩).data.toList[m]? = some (undo c) := by
        rw [hcd, List.getElem?_append_left (by omega), List.getElem?_append_right (by omega), h1]; simp
      exact (List.getElem?_eq_some_iff.1 this).2
    rw [eP, eB]
    refine ⟨?_, ?_, by simp, ?_⟩
    · unfold shapedF; simpa using hsh
    · have h1 : workF (setW l n (cutW (xAt l n).s m 1 ⟨#[undo c]⟩)) n = true := workF_set hn hst.2.2
      have h2 := (letter_undo hlet).2.1 hne
      simp only [fitsF, Int.toNat_natCast, eX, h1, hcb, hcs]
      simp [h2]; omega
    · rw [putF_turn, eX]
      refine setW_setW _ _ _ _ hn (bext ?_)
      simp only
      rw [hcb, cutW_data _ _ _ _ (by omega), hcd, List.drop_left' h2, List.append_assoc ((xAt l n).s.data.toList.take m), List.take_left' h1, (letter_undo hlet).1]
      have := take_mid_drop (xAt l n).s.data.toList m hm
      rw [hc] at this
      exact this
  · -- place
    rw [if_neg (by omega), if_neg (by omega), if_neg (by omega), if_pos rfl] at hsh
    have hwi := of_decide_eq_true hsh
    have eP : putF l ⟨5, n, lt, wi⟩ = l.set n ⟨(xAt l n).a, (xAt l n).b + wi, (xAt l n).s⟩ := by unfold putF; simp
    have eB : backF l ⟨5, n, lt, wi⟩ = ⟨5, n, 0, -wi⟩ := by unfold backF; simp
    rw [eP, eB]
    refine ⟨?_, ?_, by simp, ?_⟩
    · unfold shapedF; simp; omega
    · unfold fitsF
      have : workF (l.set n ⟨(xAt l n).a, (xAt l n).b + wi, (xAt l n).s⟩) n = true := workF_set hn hst.2.2
      simp only
      rw [this]; simp
    · rw [putF_place, xAt_set hn, List.set_set]
      have e : (⟨(xAt l n).a, (xAt l n).b + wi + -wi, (xAt l n).s⟩ : Tri) = xAt l n := by
        rw [show (xAt l n).b + wi + -wi = (xAt l n).b by omega]
      simp only
      rw [e, set_xAt l n hn]
  · -- swap
    rw [if_neg (by omega), if_neg (by omega), if_neg (by omega), if_pos rfl] at hfit
    have hn1 : n + 1 < l.length ∧ (xAt l (n + 1)).a ≠ 1 := by
      unfold workF at hfit
      simp only [Bool.and_eq_true, decide_eq_true_eq] at hfit
      rw [show ((n : Int) + 1).toNat = n + 1 by omega] at hfit
      omega
    have eP : putF l ⟨6, n, lt, wi⟩ = (l.set n (xAt l (n + 1))).set (n + 1) (xAt l n) := by unfold putF; simp
    have eB : backF l ⟨6, n, lt, wi⟩ = ⟨6, n, lt, wi⟩ := by unfold backF; simp
    have x1 : xAt ((l.set n (xAt l (n + 1))).set (n + 1) (xAt l n)) n = xAt l (n + 1) := by rw [xAt_set_ne (by omega), xAt_set hn]
    have x2 : xAt ((l.set n (xAt l (n + 1))).set (n + 1) (xAt l n)) (n + 1) = xAt l n := xAt_set (by simp; omega)
    rw [eP, eB]
    refine ⟨?_, ?_, by simp, ?_⟩
    · unfold shapedF; simpa using hsh
    · have hw : ∀ i : Nat, i < l.length → (xAt ((l.set n (xAt l (n + 1))).set (n + 1) (xAt l n)) i).a ≠ 1 → workF ((l.set n (xAt l (n + 1))).set (n + 1) (xAt l n)) i = true := fun i hi ha => by
        rw [workF_iff (by simpa using hi), ← xAt_of (by simpa using hi)]
        simpa using ha
      have h1 := hw n hn (by rw [x1]; exact hn1.2)
      have h2 := hw (n + 1) hn1.1 (by rw [x2]; exact hst.2.2)
      rw [Int.natCast_add, Int.natCast_one] at h2
      simp only [fitsF, h1, h2]
      simp
    · rw [putF_swap, x1, x2]
      apply List.ext_getElem
      · simp
      · intro j h1 h2
        rw [List.getElem_set, List.getElem_set, List.getElem_set, List.getElem_set]
        by_cases e1 : n + 1 = j
        · subst e1; rw [if_pos rfl, xAt_of h2]
        · rw [if_neg e1]
          by_cases e2 : n = j
          · subst e2; rw [if_pos rfl, xAt_of h2]
          · rw [if_neg e2, if_neg e1, if_neg e2]

/-! ### an exchange of two steps -/
/-- a step with its word reduced -/
def redS (x : Tri) : Tri := ⟨x.a, x.b, redW x.s⟩
def noneS (x : Tri) : Bool := decide (x.a = 2) && decide ((redW x.s).size = 0)
/-- is the exchange of two works seen? -/
def swapSeen (x y : Tri) : Bool := !(noneS x || noneS y || !touchB x.b y.b || decide (redS x = redS y))

theorem plainL_cons (x : Tri) (l : List Tri) : plainL (x :: l) = (if (redW x.s).size ≠ 0 ∨ x.a = 2 then [⟨x.a, x.b, redW x.s⟩] else []) ++ plainL l := by
  unfold plainL
  rw [List.map_cons, List.filter_cons]
  by_cases h : (redW x.s).size ≠ 0 ∨ x.a = 2
  · rw [if_pos h, if_pos (by simpa using h)]; rfl
  · rw [if_neg h, if_neg (by simpa using h)]; rfl
theorem plainL_append (a b : List Tri) : plainL (a ++ b) = plainL a ++ plainL b := by
  unfold plainL; rw [List.map_append, List.filter_append]

theorem swap_lists {l : List Tri} {n : Nat} (hn : n + 1 < l.length) : ∃ P Q, l = P ++ xAt l n :: xAt l (n + 1) :: Q ∧ (l.set n (xAt l (n + 1))).set (n + 1) (xAt l n) = P ++ xAt l (n + 1) :: xAt l n :: Q := by
  refine ⟨l.take n, l.drop (n + 2), ?_, ?_⟩
  · rw [xAt_of (by omega), xAt_of hn, ← List.drop_eq_getElem_cons hn, ← List.drop_eq_getElem_cons (by omega), List.take_append_drop]
  · apply List.ext_getElem
    · simp; omega
    · intro j h1 h2
      have hlen : (l.take n).length = n := by rw [List.length_take]; omega
      rw [List.getElem_set, List.getElem_set]
      by_cases e1 : n + 1 = j
      · subst e1
        rw [if_pos rfl, List.getElem_append_right (by omega)]
        simp [hlen]
      · rw [if_neg e1]
        by_cases e2 : n = j
        · subst e2
          rw [if_pos rfl, List.getElem_append_right (by omega)]
          simp [hlen]
        · rw [if_neg e2]
          by_cases e3 : j < n
          · rw [List.getElem_append_left (by omega), List.getElem_take]
          · rw [List.getElem_append_right (by omega)]
            obtain ⟨d, hd⟩ : ∃ d, j - (l.take n).length = d + 2 := ⟨j - n - 2, by omega⟩
            simp only [hd, List.getElem_cons_succ, List.getElem_drop]
            congr 1
            omega

theorem redW_sew (x : Tri) (h3 : x.a = 3) (hs : shapedB x = true) : x.s = .empty := by
  unfold shapedB at hs
  simp only [h3, Bool.or_eq_true, Bool.and_eq_true, decide_eq_true_eq] at hs
  exact size_zero (by omega)
theorem work_eq {x y : Tri} (hx : shapedB x = true) (hy : shapedB y = true) (hxa : x.a ≠ 1) (hya : y.a ≠ 1) : (⟨(workOf x).a, (workOf x).b, redW (workOf x).s⟩ : Tri) = ⟨(workOf y).a, (workOf y).b, redW (workOf y).s⟩ ↔ redS x = redS y := by
  have h1 : x.a = 2 ∨ x.a = 3 := by
    have := hx; unfold shapedB at this; simp only [Bool.or_eq_true, Bool.and_eq_true, decide_eq_true_eq] at this; omega
  have h2 : y.a = 2 ∨ y.a = 3 := by
    have := hy; unfold shapedB at this; simp only [Bool.or_eq_true, Bool.and_eq_true, decide_eq_true_eq] at this; omega
  unfold redS workOf
  rcases h1 with h1 | h1 <;> rcases h2 with h2 | h2
  · simp [h1, h2]
  · simp [h1, h2]
  · simp [h1, h2]
  · rw [redW_sew x h1 hx, redW_sew y h2 hy]
    simp [h1, h2]

theorem swap_seen {p s : Int} {l : List Tri} {f : Flt} (h : PutOk p s l f) (hk : f.k = 6) : seenR p s l f = (swapSeen (xAt l f.st.toNat) (xAt l (f.st.toNat + 1)), 0) ∧ f.st.toNat + 1 < l.length := by
  have hst := fits_step h.fit
  have hfit := h.fit
  obtain ⟨k, st, lt, wi⟩ := f
  simp only at hst hfit hk
  subst hk
  obtain ⟨n, rfl⟩ : ∃ n : Nat, st = n := ⟨st.toNat, by omega⟩
  rw [Int.toNat_natCast] at hst
  have hn1 : n + 1 < l.length ∧ (xAt l (n + 1)).a ≠ 1 := by
    simp [fitsF] at hfit
    have hfit := hfit.2
    unfold workF at hfit
    simp only [Bool.and_eq_true, decide_eq_true_eq] at hfit
    rw [show ((n : Int) + 1).toNat = n + 1 by omega] at hfit
    omega
  simp only [Int.toNat_natCast]
  refine ⟨?_, hn1.1⟩
  have eP : putF l ⟨6, n, lt, wi⟩ = (l.set n (xAt l (n + 1))).set (n + 1) (xAt l n) := by unfold putF; simp
  have hv := h.val
  have hok := h.ok
  have hok2 := h.ok2
  rw [eP] at hv hok2
  unfold seenR
  rw [hv]
  rw [if_neg (by simp)]
  congr 1
  unfold swapSeen
  congr 1
  -- both make sheets
  obtain ⟨P, Q, e1, e2⟩ := swap_lists hn1.1
  have hx := ins_shape hok (xAt l n) (by rw [xAt_of hst.2.1]; exact List.getElem_mem _)
  have hy := ins_shape hok (xAt l (n + 1)) (by rw [xAt_of hn1.1]; exact List.getElem_mem _)
  obtain ⟨r1, r2, r3, _⟩ := sheetR_inv hok
  obtain ⟨s1, s2, s3, _⟩ := sheetR_inv hok2
  have w1 := sheetR_ok r1 r2 r3
  have w2 := sheetR_ok s1 s2 s3
  have hwk : ∀ x ∈ worksOf l, WOk p x := okS_works (p := p) (s := s) _ _ _ r3
  unfold alikeR
  rw [w1, w2, e2]
  generalize hX : xAt l n = X at *
  generalize hY : xAt l (n + 1) = Y at *
  have f1 : worksOf l = worksOf P ++ workOf X :: workOf Y :: worksOf Q := by
    conv => lhs; rw [e1]
    rw [worksOf_append, worksOf_cons2 hst.2.2, worksOf_cons2 hn1.2]
  have f2 : worksOf (P ++ Y :: X :: Q) = worksOf P ++ workOf Y :: workOf X :: worksOf Q := by
    rw [worksOf_append, worksOf_cons2 hn1.2, worksOf_cons2 hst.2.2]
  have hwk2 := plain_wok hwk
  have hbb : ∀ (k : Nat) (hk : k < (plainL (worksOf l)).length), 0 ≤ (plainL (worksOf l))[k].b := fun k hk => (hwk2 _ (List.getElem_mem hk)).b0
  simp only
  rw [Bool.eq_iff_iff, traceB_iff hbb, f2]
  simp only [true_and]
  rw [f1, plainL_append, plainL_cons, plainL_cons, plainL_append, plainL_cons, plainL_cons]
  have bX : (workOf X).b = X.b := by unfold workOf; split <;> rfl
  have bY : (workOf Y).b = Y.b := by unfold workOf; split <;> rfl
  have nX : noneS X = true ↔ ¬ ((redW (workOf X).s).size ≠ 0 ∨ (workOf X).a = 2) := by
    unfold noneS workOf
    have h1 : X.a = 2 ∨ X.a = 3 := by
      have := hx; unfold shapedB at this; simp only [Bool.or_eq_true, Bool.and_eq_true, decide_eq_true_eq] at this; have := hst.2.2; omega
    rcases h1 with h1 | h1 <;> simp [h1]
  have nY : noneS Y = true ↔ ¬ ((redW (workOf Y).s).size ≠ 0 ∨ (workOf Y).a = 2) := by
    unfold noneS workOf
    have h1 : Y.a = 2 ∨ Y.a = 3 := by
      have := hy; unfold shapedB at this; simp only [Bool.or_eq_true, Bool.and_eq_true, decide_eq_true_eq] at this; have := hn1.2; omega
    rcases h1 with h1 | h1 <;> simp [h1]
  simp only [Bool.or_eq_true, Bool.not_eq_true', decide_eq_true_eq]
  by_cases c1 : (redW (workOf X).s).size ≠ 0 ∨ (workOf X).a = 2
  · by_cases c2 : (redW (workOf Y).s).size ≠ 0 ∨ (workOf Y).a = 2
    · rw [if_pos c1, if_pos c2]
      have g1 : ¬ noneS X = true := by rw [nX]; exact fun h => h c1
      have g2 : ¬ noneS Y = true := by rw [nY]; exact fun h => h c2
      have := swap_tr (plainL (worksOf P)) (plainL (worksOf Q)) ⟨(workOf X).a, (workOf X).b, redW (workOf X).s⟩ ⟨(workOf Y).a, (workOf Y).b, redW (workOf Y).s⟩
      simp only [List.singleton_append]
      rw [this, work_eq hx hy hst.2.2 hn1.2]
      simp only [bX, bY]
      constructor
      · rintro (h | h)
        · exact Or.inl (Or.inr h)
        · exact Or.inr h
      · rintro (((h | h) | h) | h)
        · exact absurd h g1
        · exact absurd h g2
        · exact Or.inl h
        · exact Or.inr h
    · rw [if_neg c2]
      have := nY.2 c2
      simp only [List.nil_append, this, or_true, true_or, iff_true]
      exact TrEq.refl _
  · rw [if_neg c1]
    have := nX.2 c1
    simp only [List.nil_append, this, or_true, true_or, iff_true]
    exact TrEq.refl _
end Go.Proofs.Ytblifdchofihoaa
