/- Plain: the reference's List, the best texts of the last numbers. -/
import Derived.Test.YtohcmfobnkaaiaaGreatDoorAppM
set_option linter.unusedSimpArgs false
set_option linter.unusedVariables false
namespace Go.Proofs.YtohcmfobnkaaiaaGreatDoor
open Go

def upB (m : List Int) (k : Nat) : Bool := (List.range k).all fun i => decide (m.getD i 0 = m.headD 0 + i)
def alB (m : List Int) (k : Nat) : Bool := (List.range k).all fun i => decide (m.getD i 0 = m.headD 0)
theorem upB_iff {m : List Int} {k : Nat} : upB m k = true ↔ ∀ i, i < k → m.getD i 0 = m.headD 0 + i := by
  unfold upB
  rw [List.all_eq_true]
  simp only [List.mem_range, decide_eq_true_eq]
theorem alB_iff {m : List Int} {k : Nat} : alB m k = true ↔ ∀ i, i < k → m.getD i 0 = m.headD 0 := by
  unfold alB
  rw [List.all_eq_true]
  simp only [List.mem_range, decide_eq_true_eq]
theorem upB_next (m : List Int) (k : Nat) : upB m (k + 1) = (upB m k && decide (m.getD k 0 = m.headD 0 + k)) := by unfold upB; rw [List.range_succ, List.all_append]; simp
theorem alB_next (m : List Int) (k : Nat) : alB m (k + 1) = (alB m k && decide (m.getD k 0 = m.headD 0)) := by unfold alB; rw [List.range_succ, List.all_append]; simp
/-- texts -/
def textsP (m : List Int) : List (List UInt8) :=
  if m.length = 1 then [digL (m.headD 0)]
  else if upB m m.length then [digL (m.headD 0) ++ 45 :: digL (m.getD (m.length - 1) 0)]
  else if alB m m.length then [digL ((m.length : Nat) : Int) ++ 120 :: digL (m.headD 0)]
  else []
theorem getD_take {M : List Int} {k i : Nat} (h : i < k) : (M.take k).getD i 0 = M.getD i 0 := by
  simp [List.getD_eq_getElem?_getD, List.getElem?_take, h]
theorem headD_take {M : List Int} {k : Nat} : (M.take (k + 1)).headD 0 = M.headD 0 := by cases M <;> rfl
theorem texts_mem {M : List Int} {q : Nat} (hq : q < M.length) (s : List UInt8) : s ∈ textsP (M.take (q + 1)) ↔ (s, q + 1) ∈ itemsW M := by
  have hlen : (M.take (q + 1)).length = q + 1 := by rw [List.length_take]; omega
  have hup : upB (M.take (q + 1)) (q + 1) = true ↔ ∀ i, i < q + 1 → M.getD i 0 = M.headD 0 + i := by
    rw [upB_iff, headD_take]
    exact ⟨fun h i hi => by rw [← getD_take hi]; exact h i hi, fun h i hi => by rw [getD_take hi]; exact h i hi⟩
  have hal : alB (M.take (q + 1)) (q + 1) = true ↔ ∀ i, i < q + 1 → M.getD i 0 = M.headD 0 := by
    rw [alB_iff, headD_take]
    exact ⟨fun h i hi => by rw [← getD_take hi]; exact h i hi, fun h i hi => by rw [getD_take hi]; exact h i hi⟩
  have h0 : M.getD 0 0 = M.headD 0 := (headD_getD M).symm
  unfold textsP
  rw [hlen, headD_take, show q + 1 - 1 = q from rfl, getD_take (by omega)]
  rw [mem_items]
  by_cases hq0 : q = 0
  · subst hq0
    rw [if_pos rfl, List.mem_singleton]
    constructor
    · intro h; exact .inl (by rw [h])
    · rintro (h | ⟨j, _, h⟩ | ⟨j, _, h⟩)
      · exact congrArg Prod.fst h
      · have := congrArg Prod.snd h; simp at this
      · have := congrArg Prod.snd h; simp at this
  · rw [if_neg (by omega)]
    have hu : upB (M.take (q + 1)) (q + 1) = true ↔ q - 1 ∈ upL M := by
      rw [hup, mem_upL]
      constructor
      · intro h
        exact ⟨by omega, fun i hi => h (i + 1) (by omega)⟩
      · rintro ⟨_, h⟩ i hi
        cases i with
        | zero => rw [h0]; simp
        | succ i => exact h i (by omega)
    have ha : alB (M.take (q + 1)) (q + 1) = true ↔ q - 1 ∈ alL M := by
      rw [hal, mem_alL]
      constructor
      · intro h
        exact ⟨by omega, fun i hi => h (i + 1) (by omega)⟩
      · rintro ⟨_, h⟩ i hi
        cases i with
        | zero => exact h0
        | succ i => exact h i (by omega)
    have e1 : q - 1 + 1 = q := by omega
    have e2 : q - 1 + 2 = q + 1 := by omega
    by_cases hU : upB (M.take (q + 1)) (q + 1) = true
    · rw [if_pos hU, List.mem_singleton]
      constructor
      · intro h
        exact .inr (.inl ⟨q - 1, hu.1 hU, by rw [h, e1, e2]⟩)
      · rintro (h | ⟨j, hj, h⟩ | ⟨j, hj, h⟩)
        · have := congrArg Prod.snd h; simp at this; exact absurd this hq0
        · have h2 := congrArg Prod.snd h
          simp only at h2
          obtain rfl : j = q - 1 := by omega
          have h3 := congrArg Prod.fst h
          simp only [e1] at h3
          exact h3.symm
        · have h2 := congrArg Prod.snd h
          simp only at h2
          obtain rfl : j = q - 1 := by omega
          have a := hup.1 hU 1 (by omega)
          have b := hal.1 (ha.2 hj) 1 (by omega)
          rw [b] at a; omega
    · rw [if_neg hU]
      by_cases hA : alB (M.take (q + 1)) (q + 1) = true
      · rw [if_pos hA, List.mem_singleton]
        constructor
        · intro h
          exact .inr (.inr ⟨q - 1, ha.1 hA, by rw [h, e2]⟩)
        · rintro (h | ⟨j, hj, h⟩ | ⟨j, hj, h⟩)
          · have := congrArg Prod.snd h; simp at this; exact absurd this hq0
          · have h2 := congrArg Prod.snd h
            simp only at h2
            obtain rfl : j = q - 1 := by omega
            exact absurd (hu.2 hj) hU
          · have h2 := congrArg Prod.snd h
            simp only at h2
            obtain rfl : j = q - 1 := by omega
            have h3 := congrArg Prod.fst h
            simp only [e2] at h3
            exact h3.symm
      · rw [if_neg hA]
        constructor
        · intro h; simp at h
        · rintro (h | ⟨j, hj, h⟩ | ⟨j, hj, h⟩)
          · have := congrArg Prod.snd h; simp at this; exact absurd this hq0
          · have h2 := congrArg Prod.snd h
            simp only at h2
            obtain rfl : j = q - 1 := by omega
            exact absurd (hu.2 hj) hU
          · have h2 := congrArg Prod.snd h
            simp only at h2
            obtain rfl : j = q - 1 := by omega
            exact absurd (ha.2 hj) hA
theorem texts_none {M : List Int} {q q' : Nat} (hqq : q ≤ q') (hq : q' < M.length) (h : textsP (M.take (q + 1)) = []) : textsP (M.take (q' + 1)) = [] := by
  cases hs : textsP (M.take (q' + 1)) with
  | nil => rfl
  | cons s r =>
    exfalso
    have hm : s ∈ textsP (M.take (q' + 1)) := by rw [hs]; simp
    have hmem := (texts_mem hq s).1 hm
    have hno : ∀ u, (u, q + 1) ∉ itemsW M := fun u hu => by
      have := (texts_mem (by omega : q < M.length) u).2 hu
      rw [h] at this; simp at this
    by_cases hq0 : q = 0
    · subst hq0
      exact hno _ (mem_items.2 (.inl rfl))
    · rcases mem_items.1 hmem with h2 | ⟨j, hj, h2⟩ | ⟨j, hj, h2⟩
      · have := congrArg Prod.snd h2; simp at this; omega
      · have h3 := congrArg Prod.snd h2
        simp only at h3
        have hj2 := mem_upL.1 hj
        exact hno _ (mem_items.2 (.inr (.inl ⟨q - 1, mem_upL.2 ⟨by omega, fun i hi => hj2.2 i (by omega)⟩, by rw [show q - 1 + 2 = q + 1 by omega]⟩)))
      · have h3 := congrArg Prod.snd h2
        simp only at h3
        have hj2 := mem_alL.1 hj
        exact hno _ (mem_items.2 (.inr (.inr ⟨q - 1, mem_alL.2 ⟨by omega, fun i hi => hj2.2 i (by omega)⟩, by rw [show q - 1 + 2 = q + 1 by omega]⟩)))
theorem texts_one (m : List Int) : (textsP m).length ≤ 1 := by
  unfold textsP
  split
  · simp
  split
  · simp
  split <;> simp
/-- what is tried with the first q + 1 numbers -/
def candE (M : List Int) (q : Nat) (s : List UInt8) : List UInt8 := if q + 1 < M.length then s ++ 44 :: lstT (M.drop (q + 1)) else s
def candQ (M : List Int) (q : Nat) : List (List UInt8) := (textsP (M.take (q + 1))).map (candE M q)
def stepR (b s : List UInt8) : List UInt8 := if b = [] ∨ ltB s b = true then s else b
def runR (M : List Int) (k : Nat) : List UInt8 := ((List.range k).flatMap (candQ M)).foldl stepR []
theorem runR_next (M : List Int) (k : Nat) : runR M (k + 1) = (candQ M k).foldl stepR (runR M k) := by
  unfold runR
  rw [List.range_succ, List.flatMap_append, List.foldl_append]; simp
theorem runR_stop {M : List Int} {k : Nat} (h : textsP (M.take (k + 1)) = []) : ∀ n, k ≤ n → n ≤ M.length → runR M n = runR M k
  | 0, hk, _ => by rw [show k = 0 by omega]
  | n + 1, hk, hn => by
    by_cases he : k = n + 1
    · rw [he]
    · rw [runR_next, runR_stop h n (by omega) (by omega)]
      unfold candQ
      rw [texts_none (by omega : k ≤ n) (by omega) h]; rfl
theorem ltB_ntrans {a b c : List UInt8} (h1 : ltB a b = false) (h2 : ltB b c = false) : ltB a c = false := by
  unfold ltB at *
  simp only [Bool.or_eq_false_iff, decide_eq_false_iff_not, Bool.and_eq_false_iff] at *
  refine ⟨by omega, ?_⟩
  by_cases hl : a.length = c.length
  · have hab : a.length = b.length := by omega
    have hbc : b.length = c.length := by omega
    refine .inr (bl_ntrans a b c ?_ ?_)
    · rcases h1.2 with h | h
      · exact absurd hab h
      · exact h
    · rcases h2.2 with h | h
      · exact absurd hbc h
      · exact h
  · exact .inl hl
theorem ltB_asymm {a b : List UInt8} (h : ltB a b = true) : ltB b a = false := by
  unfold ltB at *
  simp only [Bool.or_eq_false_iff, decide_eq_false_iff_not, Bool.and_eq_false_iff, Bool.or_eq_true, decide_eq_true_eq, Bool.and_eq_true] at *
  rcases h with h | ⟨h1, h2⟩
  · exact ⟨by omega, .inl (by omega)⟩
  · exact ⟨by omega, .inr (bl_asymm h2)⟩
theorem foldR : ∀ (C : List (List UInt8)) (b : List UInt8), (∀ s ∈ C, s ≠ []) →
    (C.foldl stepR b = b ∨ C.foldl stepR b ∈ C) ∧ (b ≠ [] → C.foldl stepR b ≠ [] ∧ ltB b (C.foldl stepR b) = false) ∧ ∀ s ∈ C, ltB s (C.foldl stepR b) = false
  | [], b, _ => ⟨.inl rfl, fun h => ⟨h, ltB_irrefl _⟩, fun s hs => by simp at hs⟩
  | x :: r, b, h => by
    have hx := h x (by simp)
    obtain ⟨h1, h2, h3⟩ := foldR r (stepR b x) (fun s hs => h s (by simp [hs]))
    rw [List.foldl_cons]
    have hs : (stepR b x = b ∨ stepR b x = x) ∧ stepR b x ≠ [] ∧ ltB x (stepR b x) = false ∧ (b ≠ [] → ltB b (stepR b x) = false) := by
      unfold stepR
      split
      · rename_i hc
        refine ⟨.inr rfl, hx, ltB_irrefl _, fun hb => ?_⟩
        rcases hc with hc | hc
        · exact absurd hc hb
        · exact ltB_asymm hc
      · rename_i hc
        have hb : b ≠ [] := fun e => hc (.inl e)
        have hl : ltB x b = false := by
          cases hh : ltB x b with
          | false => rfl
          | true => exact absurd (.inr hh) hc
        exact ⟨.inl rfl, hb, hl, fun _ => ltB_irrefl _⟩
    obtain ⟨s1, s2, s3, s4⟩ := hs
    obtain ⟨n1, n2⟩ := h2 s2
    refine ⟨?_, fun hb => ⟨n1, ltB_ntrans (s4 hb) n2⟩, fun s hs => ?_⟩
    · rcases h1 with h1 | h1
      · rcases s1 with e | e
        · exact .inl (by rw [h1, e])
        · exact .inr (by rw [h1, e]; simp)
      · exact .inr (by simp [h1])
    · rcases List.mem_cons.1 hs with rfl | hs
      · exact ltB_ntrans s3 n2
      · exact h3 s hs
theorem join_items (x : It) (xs : List It) : joinC ((x :: xs).map (·.1)) = if xs = [] then x.1 else x.1 ++ 44 :: joinC (xs.map (·.1)) := by
  cases xs with
  | nil => rfl
  | cons y r => rw [if_neg (by simp)]; rfl
theorem cand_mem {M : List Int} (h : OkL M) (h0 : M ≠ []) (hn : M.length ≤ 9999) (s : List UInt8) : s ∈ (List.range M.length).flatMap (candQ M) ↔ ∃ x, x ∈ itemsW M ∧ s = candE M (x.2 - 1) x.1 := by
  rw [List.mem_flatMap]
  constructor
  · rintro ⟨q, hq, hs⟩
    rw [List.mem_range] at hq
    unfold candQ at hs
    obtain ⟨t, ht, rfl⟩ := List.mem_map.1 hs
    exact ⟨(t, q + 1), (texts_mem hq t).1 ht, rfl⟩
  · rintro ⟨x, hx, rfl⟩
    have ho := items_ok h (List.length_pos_iff.2 h0) hn hx
    have h1 := ho.one
    have h2 := ho.le
    refine ⟨x.2 - 1, List.mem_range.2 (by omega), ?_⟩
    unfold candQ
    refine List.mem_map_of_mem ((texts_mem (by omega) x.1).2 ?_)
    rw [show x.2 - 1 + 1 = x.2 by omega]
    exact hx
/-- a try is the text of an item and the best items behind it -/
theorem cand_text {M : List Int} (h : OkL M) (h0 : M ≠ []) (hn : M.length ≤ 9999) {x : It} (hx : x ∈ itemsW M) : ∃ xs, IsItems M (x :: xs) ∧ joinC ((x :: xs).map (·.1)) = candE M (x.2 - 1) x.1 := by
  have ho := items_ok h (List.length_pos_iff.2 h0) hn hx
  have h1 := ho.one
  have h2 := ho.le
  unfold candE
  rw [show x.2 - 1 + 1 = x.2 by omega]
  by_cases hl : x.2 < M.length
  · rw [if_pos hl]
    have hd : M.drop x.2 ≠ [] := fun e => by have := congrArg List.length e; rw [List.length_drop] at this; simp at this; omega
    obtain ⟨⟨ys, hy, hi, e⟩, _⟩ := lst_least (h.drop x.2) (by rw [List.length_drop]; omega) hd
    exact ⟨ys, ⟨h0, hx, hi⟩, by rw [join_items, if_neg hy, e]⟩
  · rw [if_neg hl]
    refine ⟨[], ⟨h0, hx, ?_⟩, rfl⟩
    exact List.drop_of_length_le (by omega)
/-- the best text is the one that List writes -/
theorem runR_all {M : List Int} (h : OkL M) (h0 : M ≠ []) (hn : M.length ≤ 9999) : runR M M.length = lstT M := by
  have hl1 : 1 ≤ M.length := List.length_pos_iff.2 h0
  have hpos : ∀ s ∈ (List.range M.length).flatMap (candQ M), s ≠ [] := fun s hs e => by
    obtain ⟨x, hx, rfl⟩ := (cand_mem h h0 hn s).1 hs
    have ho := items_ok h hl1 hn hx
    have := ho.pos
    have := congrArg List.length e
    unfold candE at this
    split at this
    · rw [List.length_append, List.length_nil] at this; omega
    · rw [List.length_nil] at this; omega
  obtain ⟨f1, _, f3⟩ := foldR ((List.range M.length).flatMap (candQ M)) [] hpos
  have hfirst : candE M 0 (digL (M.headD 0)) ∈ (List.range M.length).flatMap (candQ M) := (cand_mem h h0 hn _).2 ⟨_, mem_items.2 (.inl rfl), rfl⟩
  obtain ⟨⟨xs, hxs, hi, hj⟩, _, hleast⟩ := lst_least h hn h0
  change (((List.range M.length).flatMap (candQ M)).foldl stepR [] = [] ∨ _) at f1
  have hin : runR M M.length ∈ (List.range M.length).flatMap (candQ M) := by
    rcases f1 with f1 | f1
    · exfalso
      have := f3 _ hfirst
      rw [f1] at this
      have hne := hpos _ hfirst
      -- nothing is not greater than a text
      unfold ltB at this
      have : ltB (candE M 0 (digL (M.headD 0))) [] = false := by rw [← f1]; exact f3 _ hfirst
      have h2 : ltB [] (candE M 0 (digL (M.headD 0))) = true := by
        unfold ltB
        rw [decide_eq_true (by rw [List.length_nil]; exact List.length_pos_iff.2 hne)]; rfl
      -- the fold of a list that begins with a text is no empty text
      obtain ⟨C, hC⟩ : ∃ C, (List.range M.length).flatMap (candQ M) = C := ⟨_, rfl⟩
      rw [hC] at f1 hfirst hpos
      cases C with
      | nil => simp at hfirst
      | cons c r =>
        rw [List.foldl_cons] at f1
        have hc : stepR [] c = c := by unfold stepR; rw [if_pos (.inl rfl)]
        rw [hc] at f1
        exact ((foldR r c (fun s hs => hpos s (by simp [hs]))).2.1 (hpos c (by simp))).1 f1
    · exact f1
  refine ltB_tri ?_ ?_
  · obtain ⟨x, hx, e⟩ := (cand_mem h h0 hn _).1 hin
    obtain ⟨ys, hy, ey⟩ := cand_text h h0 hn hx
    rw [e, ← ey]
    exact hleast _ hy
  · -- the text that List writes is one of the tries
    have hb := best_ok h hl1 hn
    have hc := (cand_mem h h0 hn (candE M ((bestI M).2 - 1) (bestI M).1)).2 ⟨_, hb.1, rfl⟩
    have e : candE M ((bestI M).2 - 1) (bestI M).1 = lstT M := by
      have ho := hb.2
      have h1 := ho.one
      have h2 := ho.le
      unfold candE lstT
      rw [show (bestI M).2 - 1 + 1 = (bestI M).2 by omega]
      have hp := pcs_cons h hl1 hn
      unfold pcs at hp
      rw [hp]
      by_cases hl : (bestI M).2 < M.length
      · rw [if_pos hl]
        have hd : M.drop (bestI M).2 ≠ [] := fun e => by have := congrArg List.length e; rw [List.length_drop] at this; simp at this; omega
        have hne : piecesL (M.drop (bestI M).2).length (M.drop (bestI M).2) ≠ [] := fun e => by
          have := lst_ne (h.drop (bestI M).2)
          cases hM : M.drop (bestI M).2 with
          | nil => exact hd hM
          | cons a r => rw [hM] at e; rw [List.length_cons, piecesL] at e; cases e
        cases hP : piecesL (M.drop (bestI M).2).length (M.drop (bestI M).2) with
        | nil => exact absurd hP hne
        | cons y t => rfl
      · rw [if_neg hl, List.drop_of_length_le (by omega)]; rfl
    rw [← e]
    exact f3 _ hc
end Go.Proofs.YtohcmfobnkaaiaaGreatDoor
