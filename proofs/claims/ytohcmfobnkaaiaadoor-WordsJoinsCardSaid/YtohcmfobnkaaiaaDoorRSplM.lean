/- Plain: the reference's fields are those of Split. -/
import Derived.Test.YtohcmfobnkaaiaaDoorRFld
import Derived.Test.YtohcmfobnkaaiaaDoorLawQuotes
set_option linter.unusedSimpArgs false
set_option linter.unusedVariables false
namespace Go.Proofs.YtohcmfobnkaaiaaDoor
open Go

/-- the fields that all the pieces are: none where one is none -/
def allF : List (List UInt8) → Option (List Fld)
  | [] => some []
  | x :: r => match fieldP x with
    | none => none
    | some y => (allF r).map (y :: ·)
/-- the reference's Split, without its bounds -/
def rsplG : Nat → List UInt8 → Option (List Fld)
  | 0, _ => some []
  | n + 1, s => if s = [] then some [] else match fieldP (s.take (rendK s)) with
    | none => none
    | some x => if rendK s < s.length ∧ (s[rendK s]? ≠ some 32 ∨ rendK s + 1 = s.length) then none else (rsplG n (s.drop (rendK s + 1))).map (x :: ·)

theorem rbl_end : ∀ (s : List UInt8), (∀ x ∈ s.take (rbl s), x ≠ 34) → endP false s = if rbl s < s.length then some (rbl s) else none
  | [], _ => rfl
  | c :: r, h => by
    by_cases h32 : c = 32
    · subst h32
      simp [rbl, endP]
    · rw [rbl, if_neg h32, Nat.add_comm 1, List.take_succ_cons] at h
      have hc : c ≠ 34 := h c (by simp)
      have ih := rbl_end r (fun x hx => h x (by simp [hx]))
      rw [endP, if_neg hc, if_neg (by simp [h32]), ih, rbl, if_neg h32]
      by_cases hl : rbl r < r.length
      · rw [if_pos hl, if_pos (by simp; omega)]; simp [Nat.add_comm]
      · rw [if_neg hl, if_neg (by simp; omega)]; rfl
theorem rbl_min : ∀ (s : List UInt8) (q : Bool) (m : Nat), endP q s = some m → rbl s ≤ m
  | [], q, m, h => by simp [endP] at h
  | c :: r, q, m, h => by
    rw [endP] at h
    rw [rbl]
    by_cases h32 : c = 32
    · rw [if_pos h32]; omega
    · rw [if_neg h32]
      by_cases hc : c = 34
      · rw [if_pos hc] at h
        cases he : endP (!q) r with
        | none => rw [he] at h; simp at h
        | some k => rw [he] at h; simp at h; have := rbl_min r _ _ he; omega
      · rw [if_neg hc, if_neg (by simp [h32])] at h
        cases he : endP q r with
        | none => rw [he] at h; simp at h
        | some k => rw [he] at h; simp at h; have := rbl_min r _ _ he; omega
theorem rbl_at : ∀ (s : List UInt8), rbl s < s.length → s[rbl s]? = some 32
  | [], h => by simp at h
  | c :: r, h => by
    rw [rbl] at h ⊢
    by_cases h32 : c = 32
    · rw [if_pos h32, h32]; rfl
    · rw [if_neg h32] at h ⊢
      rw [Nat.add_comm 1, List.getElem?_cons_succ]
      exact rbl_at r (by simp at h; omega)
theorem und_app (a B : List UInt8) : und (qd a ++ B) = (und B).map (a ++ ·) := by
  induction a with
  | nil => simp [qd]
  | cons c r ih =>
    by_cases hc : c = 34
    · have e : qd (c :: r) = 34 :: 34 :: qd r := by simp [qd, hc]
      rw [e, List.cons_append, List.cons_append, und_two, ih, Option.map_map, hc]
      congr 1
    · have e : qd (c :: r) = c :: qd r := by simp [qd, hc]
      rw [e, List.cons_append, und_ne hc, ih, Option.map_map]
      congr 1
theorem rqu_cases : ∀ (n : Nat) (r : List UInt8), r.length = n → (∃ a rest, r = qd a ++ 34 :: rest ∧ rqu r = (qd a).length + 1 ∧ rest.head? ≠ some 34 ∧ endP true r = (endP false rest).map (· + ((qd a).length + 1))) ∨ (rqu r = r.length ∧ endP true r = none) := by
  intro n
  induction n using Nat.strongRecOn with
  | ind n ih =>
    intro r hn
    match r, hn with
    | [], _ => exact .inr ⟨rfl, rfl⟩
    | [c], _ =>
      by_cases hc : c = 34
      · subst hc
        exact .inl ⟨[], [], rfl, rfl, by simp, by simp [endP]⟩
      · exact .inr ⟨rfl, by simp [endP, hc]⟩
    | c :: d :: t, hn =>
      by_cases hc : c = 34
      · subst hc
        by_cases hd : d = 34
        · subst hd
          have h34 : endP true (34 :: 34 :: t) = (endP true t).map (· + 2) := by
            rw [endP, if_pos rfl, Bool.not_true, endP, if_pos rfl, map_add]; rfl
          rcases ih t.length (by rw [← hn]; simp; omega) t rfl with ⟨a, rest, h1, h2, h3, h4⟩ | ⟨h2, h4⟩
          · have e : qd (34 :: a) = 34 :: 34 :: qd a := by simp [qd]
            refine .inl ⟨34 :: a, rest, by rw [e, h1]; rfl, ?_, h3, ?_⟩
            · rw [rqu, if_pos rfl, if_pos rfl, h2, e]; simp; omega
            · rw [h34, h4, map_add, e]; congr 1; funext x; simp; omega
          · refine .inr ⟨?_, by rw [h34, h4]; rfl⟩
            rw [rqu, if_pos rfl, if_pos rfl, h2]; simp; omega
        · refine .inl ⟨[], d :: t, rfl, ?_, by simpa using hd, ?_⟩
          · rw [rqu, if_pos rfl, if_neg hd]; rfl
          · rw [endP, if_pos rfl]; rfl
      · have hN : endP true (c :: d :: t) = (endP true (d :: t)).map (· + 1) := by
          rw [endP, if_neg hc, if_neg (by simp)]
        rcases ih (d :: t).length (by rw [← hn]; simp) (d :: t) rfl with ⟨a, rest, h1, h2, h3, h4⟩ | ⟨h2, h4⟩
        · have e : qd (c :: a) = c :: qd a := by simp [qd, hc]
          refine .inl ⟨c :: a, rest, by rw [e, h1]; rfl, ?_, h3, ?_⟩
          · rw [rqu_ne hc, h2, e]; simp; omega
          · rw [hN, h4, map_add, e]; congr 1; funext x; simp; omega
        · exact .inr ⟨by rw [rqu_ne hc, h2]; simp; omega, by rw [hN, h4]; rfl⟩
theorem fieldP_mark {P : List UInt8} {c : UInt8} (hh : P.head? = some c) (hc : c ≠ 34) (hm : 34 ∈ P) : fieldP P = none := by
  unfold fieldP
  rw [if_neg (by rw [hh]; simpa using hc), if_neg]
  rw [rightF_eq]
  have : pure P = false := by
    unfold pure
    rw [List.all_eq_false]
    exact ⟨34, hm, by decide⟩
  rw [this]; simp
theorem fieldP_long (a : List UInt8) (d : UInt8) (tl : List UInt8) (hd : d ≠ 34) : fieldP (34 :: (qd a ++ 34 :: d :: tl)) = none := by
  unfold fieldP
  rw [if_pos (show (34 :: (qd a ++ 34 :: d :: tl)).head? = some 34 from rfl), if_pos]
  intro h0
  rcases unq_two (34 :: (qd a ++ 34 :: d :: tl)) with h | ⟨t, h, hq⟩
  · rw [h] at h0; cases h0
  · unfold quoteP at hq
    split at hq
    · have e := congrArg Prod.fst hq
      simp only [quoteL_eq] at e
      have e := (List.cons.inj e).2
      rcases List.eq_nil_or_concat tl with rfl | ⟨t2, x, rfl⟩
      · have e2 : qd t ++ [34] = (qd a ++ [34]) ++ [d] := by rw [e]; simp
        have := List.append_inj_right' e2 rfl
        simp at this
        exact hd this.symm
      · have e2 : qd t ++ [34] = (qd a ++ 34 :: d :: t2) ++ [x] := by rw [e]; simp
        have e3 := List.append_inj_left' e2 rfl
        have e4 := und_qd t
        rw [e3, und_app, und_bad hd] at e4
        cases e4
    · cases hq
theorem fieldP_nil : fieldP [] = none := rfl
theorem allF_cons (x : List UInt8) (r : List (List UInt8)) : allF (x :: r) = match fieldP x with
    | none => none
    | some y => (allF r).map (y :: ·) := rfl
theorem allF_bad {x : List UInt8} (h : fieldP x = none) (r : List (List UInt8)) : allF (x :: r) = none := by rw [allF_cons, h]
/-- one step: the first piece is what ends at rendK -/
theorem rspl_step {n : Nat} (ih : ∀ s : List UInt8, s.length < n + 1 → s ≠ [] → rsplG n s = allF (pcsG s)) {s : List UInt8} (hs : s.length ≤ n + 1) (h0 : s ≠ [])
    (he : endP false s = if rendK s < s.length then some (rendK s) else none) (hle : rendK s ≤ s.length) (hat : rendK s < s.length → s[rendK s]? = some 32) : rsplG (n + 1) s = allF (pcsG s) := by
  rw [rsplG, if_neg h0]
  by_cases hl : rendK s < s.length
  · rw [if_pos hl] at he
    rw [pcsG_some he, allF_cons]
    cases fieldP (s.take (rendK s)) with
    | none => rfl
    | some x =>
      simp only
      by_cases hend : rendK s + 1 = s.length
      · rw [if_pos ⟨hl, .inr hend⟩, List.drop_eq_nil_of_le (by omega)]
        rfl
      · rw [if_neg (by rintro ⟨_, h | h⟩; exact h (hat hl); exact hend h), ih _ (by rw [List.length_drop]; omega) (fun e => by have := congrArg List.length e; rw [List.length_drop] at this; simp at this; omega)]
  · rw [if_neg hl] at he
    have e : rendK s = s.length := by omega
    rw [pcsG_none he, allF_cons, e, List.take_length]
    cases fieldP s with
    | none => rfl
    | some x =>
      simp only
      rw [if_neg (by omega), List.drop_eq_nil_of_le (by omega)]
      cases n <;> rfl
theorem rspl_eq : ∀ (n : Nat) (s : List UInt8), s.length ≤ n → s ≠ [] → rsplG n s = allF (pcsG s)
  | 0, s, h, h0 => absurd (List.eq_nil_of_length_eq_zero (by omega)) h0
  | n + 1, s, hs, h0 => by
    have ih : ∀ s : List UInt8, s.length < n + 1 → s ≠ [] → rsplG n s = allF (pcsG s) := fun s h h0 => rspl_eq n s (by omega) h0
    match s, hs, h0 with
    | c :: r, hs, h0 =>
      by_cases hc : c = 34
      · subst hc
        have hk : rendK (34 :: r) = 1 + rqu r := by rw [rendK, if_pos rfl]
        have heq : endP false (34 :: r) = (endP true r).map (· + 1) := by rw [endP, if_pos rfl]; rfl
        rcases rqu_cases _ r rfl with ⟨a, rest, h1, h2, h3, h4⟩ | ⟨h2, h4⟩
        · cases rest with
          | nil =>
            have hlr : r.length = (qd a).length + 1 := by rw [h1]; simp
            refine rspl_step ih hs h0 ?_ (by rw [hk, h2]; simp; omega) (fun hl => by rw [hk, h2] at hl; simp at hl; omega)
            rw [heq, h4, if_neg (by rw [hk, h2]; simp; omega)]; rfl
          | cons d t =>
            have hlr : r.length = (qd a).length + 1 + (t.length + 1) := by rw [h1]; simp; omega
            by_cases hd : d = 32
            · subst hd
              have he : endP false (32 :: t) = some 0 := by simp [endP]
              refine rspl_step ih hs h0 ?_ (by rw [hk, h2]; simp; omega) (fun hl => ?_)
              · rw [heq, h4, he, if_pos (by rw [hk, h2]; simp; omega), hk, h2]; simp; omega
              · rw [hk, h2, Nat.add_comm 1, List.getElem?_cons_succ, h1, List.getElem?_append_right (by omega)]
                rw [show (qd a).length + 1 - (qd a).length = 1 by omega]; rfl
            · have hd34 : d ≠ 34 := fun e => h3 (by rw [e]; rfl)
              have hL : rsplG (n + 1) (34 :: r) = none := by
                rw [rsplG, if_neg h0]
                cases fieldP ((34 :: r).take (rendK (34 :: r))) with
                | none => rfl
                | some x =>
                  simp only
                  rw [if_pos]
                  refine ⟨by rw [hk, h2]; simp; omega, .inl ?_⟩
                  rw [hk, h2, Nat.add_comm 1, List.getElem?_cons_succ, h1, List.getElem?_append_right (by omega), show (qd a).length + 1 - (qd a).length = 1 by omega]
                  simpa using hd
              rw [hL]
              have he : endP false (d :: t) = (endP false t).map (· + 1) := by rw [endP, if_neg hd34, if_neg (by simp [hd])]
              cases het : endP false t with
              | none =>
                rw [pcsG_none (by rw [heq, h4, he, het]; rfl), allF_bad]
                rw [h1]; exact fieldP_long a d t hd34
              | some m =>
                have hm : endP false (34 :: r) = some (m + 1 + ((qd a).length + 1) + 1) := by rw [heq, h4, he, het]; rfl
                rw [pcsG_some hm, allF_bad]
                rw [List.take_succ_cons, h1, List.take_append, List.take_of_length_le (by omega), show m + 1 + ((qd a).length + 1) - (qd a).length = (m + 1) + 1 by omega, List.take_succ_cons, List.take_succ_cons]
                exact fieldP_long a d _ hd34
        · refine rspl_step ih hs h0 ?_ (by rw [hk, h2]; simp; omega) (fun hl => by rw [hk, h2] at hl; simp at hl; omega)
          rw [heq, h4, if_neg (by rw [hk, h2]; simp; omega)]; rfl
      · have hk : rendK (c :: r) = rbl (c :: r) := by rw [rendK, if_neg hc]
        have hle := rbl_le (c :: r)
        by_cases hp : ∀ x ∈ (c :: r).take (rbl (c :: r)), x ≠ 34
        · refine rspl_step ih hs h0 (by rw [hk]; exact rbl_end _ hp) (by rw [hk]; exact hle) (fun hl => by rw [hk] at hl ⊢; exact rbl_at _ hl)
        · have ⟨x, hx, hx34⟩ : ∃ x ∈ (c :: r).take (rbl (c :: r)), x = 34 := by
            refine Classical.byContradiction fun hn => hp fun x hx he => hn ⟨x, hx, he⟩
          subst hx34
          have hpos : 1 ≤ rbl (c :: r) := by
            rcases Nat.eq_zero_or_pos (rbl (c :: r)) with h | h
            · rw [h] at hx; simp at hx
            · exact h
          have hh : ∀ m, 1 ≤ m → ((c :: r).take m).head? = some c := fun m hm => by
            cases m with
            | zero => omega
            | succ m => rfl
          have hL : rsplG (n + 1) (c :: r) = none := by
            rw [rsplG, if_neg h0, hk, fieldP_mark (hh _ hpos) hc hx]
          rw [hL]
          cases he : endP false (c :: r) with
          | none => rw [pcsG_none he, allF_bad]; exact fieldP_mark rfl hc (List.mem_of_mem_take hx)
          | some m =>
            have hm := rbl_min _ _ _ he
            rw [pcsG_some he, allF_bad]
            refine fieldP_mark (hh m (by omega)) hc ?_
            rw [show m = rbl (c :: r) + (m - rbl (c :: r)) by omega, List.take_add]
            exact List.mem_append_left _ hx
theorem allF_some : ∀ l : List (List UInt8), allF l = if (l.map fieldP).any (·.isNone) then none else some ((l.map fieldP).filterMap id)
  | [] => rfl
  | x :: r => by
    rw [allF_cons, allF_some r]
    cases hx : fieldP x with
    | none => simp [hx]
    | some y =>
      simp only [List.map_cons, hx, List.any_cons, Option.isNone_some, Bool.false_or]
      by_cases h : (List.map fieldP r).any (·.isNone) = true
      · rw [if_pos h, if_pos h]; rfl
      · rw [if_neg h, if_neg h]; rfl
/-- Split, by the reference's steps -/
theorem splitP_r {L : List UInt8} (h1 : ¬ 4096 < L.length) : splitP L = match rsplG L.length L with
    | none => ([], 6)
    | some l => if 64 < l.length then ([], 3) else (l, 0) := by
  by_cases h2 : L = []
  · subst h2; rfl
  rw [rspl_eq _ L (Nat.le_refl _) h2, allF_some]
  by_cases hb : ((pcsG L).map fieldP).any (·.isNone) = true
  · rw [if_pos hb, split_bad h1 h2 (List.prefix_refl _) hb]
  · rw [if_neg hb, split_ok h1 h2 (by simpa using hb)]
    have hlen : (((pcsG L).map fieldP).filterMap id).length = (pcsG L).length := by
      have : ∀ l : List (Option Fld), ¬ l.any (·.isNone) = true → (l.filterMap id).length = l.length := by
        intro l
        induction l with
        | nil => intro _; rfl
        | cons o t ih =>
          intro h
          cases o with
          | none => simp at h
          | some y =>
            have := ih (by simpa using h)
            simpa using this
      rw [this _ hb, List.length_map]
    simp only
    rw [hlen]
end Go.Proofs.YtohcmfobnkaaiaaDoor
