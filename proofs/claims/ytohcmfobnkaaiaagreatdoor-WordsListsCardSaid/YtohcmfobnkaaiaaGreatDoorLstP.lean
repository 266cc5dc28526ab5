/- Plain: what ParseList reads are the items of a list; ParseList undoes List. -/
import Derived.Test.YtohcmfobnkaaiaaGreatDoorLstM
import Derived.Test.YtohcmfobnkaaiaaGreatDoorLinM
import Derived.Test.YtohcmfobnkaaiaaGreatDoorWParse
set_option linter.unusedSimpArgs false
set_option linter.unusedVariables false
namespace Go.Proofs.YtohcmfobnkaaiaaGreatDoor
open Go

/-! ### commas -/
theorem spl_clean : ∀ (t : List UInt8), (∀ c ∈ t, c ≠ 44) → spl 44 t = [t]
  | [], _ => rfl
  | b :: r, h => by
    rw [spl, if_neg (h b (by simp)), spl_clean r (fun c hc => h c (by simp [hc]))]
theorem spl_app (A : List UInt8) : ∀ (t : List UInt8), (∀ c ∈ t, c ≠ 44) → spl 44 (t ++ 44 :: A) = t :: spl 44 A
  | [], _ => by rw [List.nil_append, spl, if_pos rfl]
  | b :: r, h => by
    rw [List.cons_append, spl, if_neg (h b (by simp)), spl_app A r (fun c hc => h c (by simp [hc]))]
theorem spl_joinC : ∀ (ts : List (List UInt8)), ts ≠ [] → (∀ t ∈ ts, ∀ c ∈ t, c ≠ 44) → spl 44 (joinC ts) = ts
  | [], h, _ => absurd rfl h
  | [x], _, h => spl_clean x (h x (by simp))
  | x :: y :: r, _, h => by
    rw [joinC, spl_app _ _ (h x (by simp)), spl_joinC (y :: r) (by simp) (fun t ht => h t (by simp [ht]))]
theorem joinC_spl : ∀ s : List UInt8, joinC (spl 44 s) = s
  | [] => rfl
  | b :: r => by
    have ih := joinC_spl r
    have hne := spl_ne 44 r
    rw [spl]
    by_cases hb : b = 44
    · rw [if_pos hb]
      cases hs : spl 44 r with
      | nil => exact absurd hs hne
      | cons y t => rw [joinC, ← hs, ih, hb]; rfl
    · rw [if_neg hb]
      cases hs : spl 44 r with
      | nil => exact absurd hs hne
      | cons y t =>
        rw [hs] at ih
        simp only
        cases t with
        | nil => rw [joinC] at ih ⊢; rw [ih]
        | cons z t => rw [joinC] at ih ⊢; rw [List.cons_append, ih]

/-! ### reading an item -/
theorem dig_con {c : UInt8} (h : digB c = true) : ([45, 120] : List UInt8).contains c = false := by
  obtain ⟨_, h2, h3⟩ := dig_not h
  simp [h2, h3]
theorem idx_digits : ∀ (a : List UInt8), a.all digB = true → Lib.indexAny a [45, 120] = -1
  | [], _ => rfl
  | b :: r, h => by
    rw [List.all_cons, Bool.and_eq_true] at h
    rw [Lib.indexAny, dig_con h.1, idx_digits r h.2]
    rfl
theorem idx_mark (c : UInt8) (hc : ([45, 120] : List UInt8).contains c = true) (B : List UInt8) : ∀ (a : List UInt8), a.all digB = true → Lib.indexAny (a ++ c :: B) [45, 120] = (a.length : Nat)
  | [], _ => by rw [List.nil_append, Lib.indexAny, hc]; rfl
  | b :: r, h => by
    rw [List.all_cons, Bool.and_eq_true] at h
    rw [List.cons_append, Lib.indexAny, dig_con h.1, idx_mark c hc B r h.2]
    have e : (((r.length : Nat) : Int) == -1) = false := by rw [beq_eq_false_iff_ne]; omega
    rw [e]
    simp
theorem natP_dig {n : Int} (h0 : 0 ≤ n) (h1 : n ≤ 9999) : natP (digL n) = (n, true) := by
  rw [digL_eq h0 (by omega)]
  obtain ⟨a, b⟩ := itoa_facts n
  have e : intW (Lib.itoa n) 0 1099511627776 = (n, 0) := by
    unfold intW
    rw [a, b, if_neg (by omega), if_neg (by simp), if_neg (by omega)]
  unfold natP
  rw [e]
  simp
theorem ltB_dig {a b : Int} (h0 : 0 ≤ a) (h1 : a < b) (h2 : b ≤ 9999) : ltB (digL a) (digL b) = true := by
  cases h : ltB (digL a) (digL b) with
  | true => rfl
  | false =>
    exfalso
    have ea := digL_nat h0 (by omega)
    have eb := digL_nat (n := b) (by omega) h2
    cases hb : ltB (digL b) (digL a) with
    | false =>
      have := digL_inj h0 (by omega) (by omega) h2 (ltB_tri h hb)
      omega
    | true =>
      rw [ea, eb] at hb
      have := ltB_val (dec_natB _) (dec_natB _) hb
      rw [dec_val, dec_val] at this
      omega
theorem partL_one (n : Int) : partL ⟨n, n, 1⟩ = [n] := by
  unfold partL upTo
  have e1 : (n - n + 1).toNat = 1 := by omega
  simp only [e1, show (1 : Int).toNat = 1 from rfl]
  simp [List.range_succ]
theorem partL_up (a b : Int) : partL ⟨a, b, 1⟩ = upTo a b := by
  unfold partL
  simp [show (1 : Int).toNat = 1 from rfl, List.range_succ]
theorem getD_upTo {a b : Int} {i : Nat} (h : (i : Int) < b - a + 1) : (upTo a b).getD i 0 = a + i := by
  unfold upTo
  rw [List.getD_eq_getElem?_getD, List.getElem?_map, List.getElem?_range (by omega)]
  rfl
theorem partL_rep (m : Int) (k : Nat) : partL ⟨m, m, (k : Nat)⟩ = List.replicate k m := by
  unfold partL
  have e : upTo m m = [m] := by
    unfold upTo
    have e1 : (m - m + 1).toNat = 1 := by omega
    simp [e1, List.range_succ]
  simp only [e, Int.toNat_natCast]
  induction k with
  | zero => rfl
  | succ k ih => rw [List.range_succ, List.flatMap_append, ih, List.replicate_succ']; rfl
theorem headD_getD (l : List Int) : l.headD 0 = l.getD 0 0 := by cases l <;> rfl
theorem getD_lt {l : List Int} {i : Nat} (h : i < l.length) : l[i] = l.getD i 0 := by simp [h]
theorem getD_app {A B : List Int} {i : Nat} (h : i < A.length) : (A ++ B).getD i 0 = A.getD i 0 := by
  simp [List.getD_eq_getElem?_getD, List.getElem?_append_left h]
theorem take_up {l : List Int} {j : Nat} (h : j ∈ upL l) : l.take (j + 2) = upTo (l.headD 0) (l.getD (j + 1) 0) := by
  obtain ⟨h1, h2⟩ := mem_upL.1 h
  have hj := h2 j (Nat.le_refl _)
  have hlen : (upTo (l.headD 0) (l.getD (j + 1) 0)).length = j + 2 := by rw [upTo_len, hj]; omega
  refine List.ext_getElem (by rw [hlen, List.length_take]; omega) fun i hi hi' => ?_
  rw [hlen] at hi'
  rw [List.getElem_take, getD_lt, getD_lt, getD_upTo (by rw [hj]; omega)]
  cases i with
  | zero => rw [headD_getD]; simp
  | succ i => exact h2 i (by omega)
theorem take_al {l : List Int} {j : Nat} (h : j ∈ alL l) : l.take (j + 2) = List.replicate (j + 2) (l.headD 0) := by
  obtain ⟨h1, h2⟩ := mem_alL.1 h
  refine List.ext_getElem (by rw [List.length_replicate, List.length_take]; omega) fun i hi hi' => ?_
  rw [List.length_replicate] at hi'
  rw [List.getElem_take, List.getElem_replicate, getD_lt]
  cases i with
  | zero => rw [headD_getD]
  | succ i => exact h2 i (by omega)
theorem readP_one {n : Int} (h0 : 0 ≤ n) (h1 : n ≤ 9999) : readP (digL n) = (⟨n, n, 1⟩, true) := by
  unfold readP
  simp only [idx_digits _ (digL_all h0 h1), natP_dig h0 h1]
  rfl
theorem readP_up {a b : Int} (h0 : 0 ≤ a) (h1 : a < b) (h2 : b ≤ 9999) : readP (digL a ++ 45 :: digL b) = (⟨a, b, 1⟩, true) := by
  unfold readP
  simp only [idx_mark 45 (by decide) _ _ (digL_all h0 (by omega : a ≤ 9999)), Int.toNat_natCast]
  rw [if_neg (by omega), List.take_left', ← List.drop_drop, List.drop_left', List.getElem?_append_right (Nat.le_refl _), Nat.sub_self, if_pos (by rfl)]
  · rw [List.drop_one, List.tail_cons, natP_dig h0 (by omega), natP_dig (n := b) (by omega) h2, ltB_dig h0 h1 h2]; rfl
  · rfl
  · rfl
theorem readP_al {a b : Int} (h0 : 2 ≤ a) (h1 : a ≤ 9999) (k0 : 0 ≤ b) (h2 : b ≤ 9999) : readP (digL a ++ 120 :: digL b) = (⟨b, b, a⟩, true) := by
  unfold readP
  simp only [idx_mark 120 (by decide) _ _ (digL_all (by omega : 0 ≤ a) h1), Int.toNat_natCast]
  rw [if_neg (by omega), List.take_left', ← List.drop_drop, List.drop_left', List.getElem?_append_right (Nat.le_refl _), Nat.sub_self, if_neg (by simp)]
  · rw [List.drop_one, List.tail_cons, natP_dig (by omega) h1, natP_dig (n := b) (by omega) h2]; simp only [Bool.true_and, decide_eq_true h0]
  · rfl
  · rfl
/-- an item's text is read as the numbers that it is -/
theorem read_of_item {l : List Int} (h : OkL l) (hl : l ≠ []) (hn : l.length ≤ 500) {x : It} (hx : x ∈ itemsW l) :
    ∃ p, readP x.1 = (p, true) ∧ p.b ≤ 9999 ∧ partL p = l.take x.2 ∧ PartOk p ∧ p.t ≤ 500 := by
  have ha := h.headD
  have hl1 : 1 ≤ l.length := List.length_pos_iff.2 hl
  rcases mem_items.1 hx with rfl | ⟨j, hj, rfl⟩ | ⟨j, hj, rfl⟩
  · refine ⟨_, readP_one ha.1 ha.2, ha.2, ?_, ⟨ha.1, Int.le_refl _, Int.le_refl _, by simp only; omega⟩, by simp only; omega⟩
    rw [partL_one]
    cases l with
    | nil => exact absurd rfl hl
    | cons a r => rfl
  · have hj2 := mem_upL.1 hj
    have hj3 := hj2.2 j (Nat.le_refl _)
    have hb := h.getD (j + 1)
    refine ⟨_, readP_up ha.1 (by omega) hb.2, hb.2, ?_, ⟨ha.1, by simp only; omega, Int.le_refl _, by simp only; omega⟩, by simp only; omega⟩
    rw [partL_up, take_up hj]
  · have hj2 := mem_alL.1 hj
    refine ⟨_, readP_al (by omega) (by omega) ha.1 ha.2, ha.2, ?_, ⟨ha.1, Int.le_refl _, by simp only; omega, by simp only; omega⟩, by simp only; omega⟩
    rw [partL_rep, take_al hj]
theorem natP_back {s : List UInt8} (h : (natP s).2 = true) (h2 : (natP s).1 ≤ 9999) : s = digL (natP s).1 ∧ 0 ≤ (natP s).1 := by
  obtain ⟨a, b⟩ := natP_true h
  have e : (natP s).1 = (natV s : Int) := by omega
  refine ⟨?_, by omega⟩
  rw [e, digL_nat (by omega) (by omega), Int.toNat_natCast, nat_dec a]
/-- what is read as some numbers is an item of them -/
theorem item_of_read {t : List UInt8} (h : (readP t).2 = true) (hb : (readP t).1.b ≤ 9999) (ht : (readP t).1.t ≤ 500) (l' : List Int) :
    (t, (partL (readP t).1).length) ∈ itemsW (partL (readP t).1 ++ l') ∧ ∀ x ∈ partL (readP t).1, 0 ≤ x ∧ x ≤ 9999 := by
  unfold readP at h hb ht ⊢
  simp only at h hb ht ⊢
  split at h
  · rename_i hk
    simp only [hk, if_true] at hb ht ⊢
    obtain ⟨e, h0⟩ := natP_back h hb
    rw [partL_one]
    refine ⟨?_, fun x hx => by simp at hx; omega⟩
    rw [mem_items]
    refine .inl ?_
    simp [← e]
  · rename_i hk
    simp only [hk, if_false] at hb ht ⊢
    have hki := Lib.indexAny_ge [45, 120] t
    obtain ⟨k, hkk⟩ : ∃ k : Nat, Lib.indexAny t [45, 120] = k := ⟨(Lib.indexAny t [45, 120]).toNat, by omega⟩
    rw [hkk] at h hb ht ⊢
    simp only [Int.toNat_natCast] at h hb ht ⊢
    have hat : ∃ c, t[k]? = some c ∧ (c = 45 ∨ c = 120) := by
      have : ∀ (s : List UInt8) (k : Nat), Lib.indexAny s [45, 120] = k → ∃ c, s[k]? = some c ∧ (c = 45 ∨ c = 120) := by
        intro s
        induction s with
        | nil => intro k e; simp [Lib.indexAny] at e
        | cons b r ih =>
          intro k e
          rw [Lib.indexAny] at e
          split at e
          · rename_i hc
            obtain rfl : k = 0 := by omega
            exact ⟨b, rfl, by simpa using hc⟩
          · split at e
            · omega
            · rename_i hc hne
              have hge := Lib.indexAny_ge [45, 120] r
              have hne' : Lib.indexAny r [45, 120] ≠ -1 := by simpa using hne
              obtain ⟨m, rfl⟩ : ∃ m, k = m + 1 := ⟨k - 1, by omega⟩
              obtain ⟨c, h1, h2⟩ := ih m (by omega)
              exact ⟨c, by rw [List.getElem?_cons_succ]; exact h1, h2⟩
      exact this t k hkk
    obtain ⟨c, hc, hc2⟩ := hat
    obtain ⟨hkl, hck⟩ := List.getElem?_eq_some_iff.1 hc
    have htt : t = t.take k ++ c :: t.drop (k + 1) := by
      conv => lhs; rw [← List.take_append_drop k t, List.drop_eq_getElem_cons hkl, hck]
    split at h
    · rename_i h45
      simp only [h45, if_true] at hb ht ⊢
      simp only [Bool.and_eq_true] at h
      have hce : c = 45 := by rw [hc] at h45; exact Option.some.inj h45
      subst hce
      have hlt : (natP (t.take k)).1 < (natP (t.drop (k + 1))).1 := by
        have h1 := natP_true h.1
        have h3 := natP_true h.2.1
        have h5 := ltB_val h1.1 h3.1 h.2.2
        omega
      obtain ⟨e1, n1⟩ := natP_back h.1 (by omega)
      obtain ⟨e2, n2⟩ := natP_back h.2.1 hb
      generalize (natP (t.take k)).1 = a at *
      generalize (natP (t.drop (k + 1))).1 = b at *
      rw [partL_up]
      have hlen := upTo_len a b
      have hget : ∀ i : Nat, (i : Int) < b - a + 1 → (upTo a b ++ l').getD i 0 = a + i := fun i hi => by rw [getD_app (by rw [hlen]; omega), getD_upTo hi]
      have hh : (upTo a b ++ l').headD 0 = a := by rw [headD_getD, hget 0 (by omega)]; simp
      refine ⟨?_, fun x hx => ?_⟩
      · rw [mem_items]
        refine .inr (.inl ⟨(b - a - 1).toNat, ?_, ?_⟩)
        · rw [mem_upL, hh, List.length_append, hlen]
          refine ⟨by omega, fun i hi => ?_⟩
          rw [hget _ (by omega)]
        · rw [hh, hget _ (by omega), hlen]
          have e3 : a + (((b - a - 1).toNat + 1 : Nat) : Int) = b := by omega
          rw [e3, ← e1, ← e2, ← htt]
          have e4 : (b - a - 1).toNat + 2 = (b - a + 1).toNat := by omega
          rw [e4]
      · unfold upTo at hx
        simp only [List.mem_map, List.mem_range] at hx
        obtain ⟨i, hi, rfl⟩ := hx
        omega
    · rename_i h45
      simp only [h45, if_false] at hb ht ⊢
      simp only [Bool.and_eq_true, decide_eq_true_eq] at h
      have hce : c = 120 := by
        rcases hc2 with rfl | h2
        · exact absurd hc h45
        · exact h2
      subst hce
      obtain ⟨e1, n1⟩ := natP_back h.1 (by omega)
      obtain ⟨e2, n2⟩ := natP_back h.2.1 hb
      have h2t := h.2.2
      generalize (natP (t.take k)).1 = a at *
      generalize (natP (t.drop (k + 1))).1 = b at *
      obtain ⟨m, rfl⟩ : ∃ m : Nat, a = m := ⟨a.toNat, by omega⟩
      rw [partL_rep, List.length_replicate]
      have hget : ∀ i : Nat, i < m → (List.replicate m b ++ l').getD i 0 = b := fun i hi => by
        rw [getD_app (by rw [List.length_replicate]; exact hi)]
        simp [List.getD_eq_getElem?_getD, List.getElem?_replicate, hi]
      have hh : (List.replicate m b ++ l').headD 0 = b := by rw [headD_getD, hget 0 (by omega)]
      refine ⟨?_, fun x hx => ?_⟩
      · rw [mem_items]
        refine .inr (.inr ⟨m - 2, ?_, ?_⟩)
        · rw [mem_alL, hh, List.length_append, List.length_replicate]
          refine ⟨by omega, fun i hi => ?_⟩
          rw [hget _ (by omega)]
        · rw [hh]
          have e3 : m - 2 + 2 = m := by omega
          rw [e3, ← e1, ← e2, ← htt]
      · have := (List.mem_replicate.1 hx).2
        omega
theorem part_len {p : Part} (h : PartOk p) : ((partL p).length : Int) = p.t * (p.b - p.a + 1) := by
  have := h.ab
  have := h.t1
  rw [partL_len]
  rw [Int.natCast_mul, Int.toNat_of_nonneg (by omega), Int.toNat_of_nonneg (by omega)]
theorem many_ok : ∀ (ps : List Part) (n : Int), (∀ p ∈ ps, PartOk p ∧ p.t ≤ 500) → n + ((ps.flatMap partL).length : Nat) ≤ 500 → manyP n ps = some (n + ((ps.flatMap partL).length : Nat))
  | [], n, _, _ => by simp [manyP]
  | p :: r, n, h, hn => by
    obtain ⟨hp, ht⟩ := h p (by simp)
    have hl := part_len hp
    rw [List.flatMap_cons, List.length_append] at hn ⊢
    have e : min p.t 501 * (p.b - p.a + 1) = ((partL p).length : Int) := by rw [Int.min_eq_left (by omega), hl]
    rw [manyP, e, if_neg (by omega), many_ok r _ (fun q hq => h q (by simp [hq])) (by omega)]
    congr 1; omega
theorem read_of_items : ∀ (xs : List It) (l : List Int), OkL l → l.length ≤ 500 → IsItems l xs →
    (∀ x ∈ xs, (readP x.1).2 = true ∧ (readP x.1).1.b ≤ 9999 ∧ PartOk (readP x.1).1 ∧ (readP x.1).1.t ≤ 500 ∧ ∀ c ∈ x.1, c ≠ 44) ∧ xs.flatMap (fun x => partL (readP x.1).1) = l
  | [], l, _, _, h => ⟨fun x hx => by simp at hx, by rw [show l = [] from h]; rfl⟩
  | x :: r, l, h, hn, hi => by
    obtain ⟨h0, hx, hr⟩ := hi
    obtain ⟨p, e1, e2, e3, e4, e5⟩ := read_of_item h h0 hn hx
    obtain ⟨a, b⟩ := read_of_items r (l.drop x.2) (h.drop _) (by rw [List.length_drop]; omega) hr
    refine ⟨fun y hy => ?_, ?_⟩
    · rcases List.mem_cons.1 hy with rfl | hy
      · rw [e1]; exact ⟨rfl, e2, e4, e5, items_clean h (by omega) hx⟩
      · exact a y hy
    · rw [List.flatMap_cons, b, e1, e3, List.take_append_drop]
/-- the text of items is read as their list -/
theorem parse_of_items {l : List Int} {xs : List It} (h : OkL l) (hn : l.length ≤ 500) (h0 : l ≠ []) (hi : IsItems l xs) (hl : (joinC (xs.map (·.1))).length ≤ 2500) : parseP (joinC (xs.map (·.1))) = (l, 0) := by
  obtain ⟨a, b⟩ := read_of_items xs l h hn hi
  have hxs : xs ≠ [] := fun e => by rw [e] at hi; exact h0 hi
  have hne : joinC (xs.map (·.1)) ≠ [] := fun e => by
    cases xs with
    | nil => exact hxs rfl
    | cons x r =>
      have hx := items_ok h (List.length_pos_iff.2 h0) (by omega) hi.2.1
      have := congrArg List.length e
      rw [List.map_cons, joinC_cons, List.length_append, List.length_nil] at this
      have := hx.pos
      omega
  have hs : Lib.split (joinC (xs.map (·.1))) [44] = xs.map (·.1) := by
    rw [split_spl, spl_joinC _ (by simpa using hxs)]
    intro t ht
    obtain ⟨x, hx, rfl⟩ := List.mem_map.1 ht
    exact (a x hx).2.2.2.2
  unfold parseP
  rw [if_neg (by omega), if_neg hne, hs]
  simp only
  have hf : ((xs.map (·.1)).map readP).flatMap (fun x => partL x.1) = l := by
    rw [← b]; simp [List.flatMap_map]
  rw [if_neg, if_neg, if_neg, hf]
  · rw [many_ok _ 0]
    · simp
    · intro p hp
      simp only [List.map_map, List.mem_map, Function.comp] at hp
      obtain ⟨x, hx, rfl⟩ := hp
      exact ⟨(a x hx).2.2.1, (a x hx).2.2.2.1⟩
    · have : (((xs.map (·.1)).map readP).map (·.1)).flatMap partL = l := by rw [← hf]; simp [List.flatMap_map]
      rw [this]; omega
  · rw [List.any_eq_true]
    rintro ⟨p, hp, hh⟩
    simp only [List.map_map, List.mem_map, Function.comp] at hp
    obtain ⟨x, hx, rfl⟩ := hp
    have := (a x hx).2.1
    simp at hh; omega
  · rw [List.any_eq_true]
    rintro ⟨p, hp, hh⟩
    simp only [List.map_map, List.mem_map, Function.comp] at hp
    obtain ⟨x, hx, rfl⟩ := hp
    rw [(a x hx).1] at hh
    cases hh
theorem items_of_ts : ∀ (ts : List (List UInt8)), (∀ t ∈ ts, (readP t).2 = true ∧ (readP t).1.b ≤ 9999 ∧ (readP t).1.t ≤ 500) →
    IsItems (ts.flatMap fun t => partL (readP t).1) (ts.map fun t => (t, (partL (readP t).1).length)) ∧ OkL (ts.flatMap fun t => partL (readP t).1)
  | [], _ => ⟨rfl, fun x hx => by simp at hx⟩
  | t :: r, h => by
    obtain ⟨h1, h2, h3⟩ := h t (by simp)
    obtain ⟨a, b⟩ := items_of_ts r (fun x hx => h x (by simp [hx]))
    obtain ⟨c, d⟩ := item_of_read h1 h2 h3 (r.flatMap fun t => partL (readP t).1)
    have hp := part_len (read_ok h1 h2)
    have hok := read_ok h1 h2
    have hpos : 0 < (partL (readP t).1).length := by
      have h5 := hok.ab
      have h6 := hok.t1
      have : 0 < (readP t).1.t * ((readP t).1.b - (readP t).1.a + 1) := Int.mul_pos (by omega) (by omega)
      omega
    rw [List.flatMap_cons, List.map_cons]
    refine ⟨⟨fun e => ?_, c, ?_⟩, fun x hx => ?_⟩
    · have := congrArg List.length e
      rw [List.length_append, List.length_nil] at this
      omega
    · simp only
      rw [List.drop_left']
      · exact a
      · rfl
    · rcases List.mem_append.1 hx with hx | hx
      · exact d x hx
      · exact b x hx
/-- what is read is the text of items -/
theorem items_of_parse {s : List UInt8} {l : List Int} (h : parseP s = (l, 0)) (h0 : s ≠ []) : l ≠ [] ∧ OkL l ∧ l.length ≤ 500 ∧ s.length ≤ 2500 ∧ ∃ xs, IsItems l xs ∧ joinC (xs.map (·.1)) = s := by
  unfold parseP at h
  split at h
  · cases h
  rename_i hlen
  simp only [if_neg h0] at h
  split at h
  · cases h
  rename_i hall
  split at h
  · cases h
  rename_i hrng
  split at h
  · cases h
  rename_i hmany
  have hl := congrArg Prod.fst h
  simp only at hl
  rw [split_spl] at *
  have h1 : ∀ t ∈ spl 44 s, (readP t).2 = true := fun t ht => by
    cases hh : (readP t).2 with
    | true => rfl
    | false => exact absurd (List.any_eq_true.2 ⟨readP t, List.mem_map_of_mem ht, by rw [hh]; rfl⟩) hall
  have h2 : ∀ t ∈ spl 44 s, (readP t).1.b ≤ 9999 := fun t ht => by
    refine Classical.byContradiction fun hh => hrng (List.any_eq_true.2 ⟨readP t, List.mem_map_of_mem ht, by simpa using hh⟩)
  obtain ⟨m, hm⟩ : ∃ m, manyP 0 (((spl 44 s).map readP).map (·.1)) = some m := by
    cases hh : manyP 0 (((spl 44 s).map readP).map (·.1)) with
    | none => exact absurd hh hmany
    | some m => exact ⟨m, rfl⟩
  have hok : ∀ x ∈ ((spl 44 s).map readP).map (·.1), PartOk x := fun x hx => by
    simp only [List.map_map, List.mem_map, Function.comp] at hx
    obtain ⟨t, ht, rfl⟩ := hx
    exact read_ok (h1 t ht) (h2 t ht)
  have h3 : ∀ t ∈ spl 44 s, (readP t).1.t ≤ 500 := fun t ht => (many_each _ _ _ hok (Int.le_refl _) hm _ (List.mem_map_of_mem (List.mem_map_of_mem ht))).1
  obtain ⟨a, b⟩ := items_of_ts _ (fun t ht => ⟨h1 t ht, h2 t ht, h3 t ht⟩)
  have hml := many_len _ _ _ hok (Int.le_refl _) (by omega) hm
  have e1 : (((spl 44 s).map readP).map (·.1)).flatMap partL = l := by rw [← hl]; simp [List.flatMap_map]
  have e2 : ((spl 44 s).flatMap fun t => partL (readP t).1) = l := by rw [← hl]; simp [List.flatMap_map]
  rw [e1] at hml
  rw [e2] at a b
  have e3 : (((spl 44 s).map fun t => (t, (partL (readP t).1).length)).map (·.1)) = spl 44 s := by rw [List.map_map]; exact List.map_id _
  refine ⟨fun e => ?_, b, by omega, by omega, _, a, by rw [e3, joinC_spl]⟩
  rw [e] at a
  cases hs : spl 44 s with
  | nil => exact spl_ne 44 s hs
  | cons t r =>
    rw [hs] at a
    exact a.1 rfl
/-- ParseList undoes List -/
theorem parse_list {l : List Int} (h : OkL l) (hn : l.length ≤ 500) : parseP (lstT l) = (l, 0) := by
  by_cases h0 : l = []
  · subst h0; rfl
  obtain ⟨⟨xs, hx, hi, e⟩, _, _⟩ := lst_least h (by omega) h0
  have := lst_len h (by omega)
  rw [← e] at this ⊢
  exact parse_of_items h hn h0 hi (by omega)
/-- what is read is not less than what List writes -/
theorem parse_least {s : List UInt8} {l : List Int} (h : parseP s = (l, 0)) : OkL l ∧ l.length ≤ 500 ∧ ltB s (lstT l) = false := by
  by_cases h0 : s = []
  · subst h0
    have : l = [] := (congrArg Prod.fst h).symm
    subst this
    exact ⟨fun x hx => by simp at hx, by simp, rfl⟩
  · obtain ⟨a, b, c, _, xs, hi, e⟩ := items_of_parse h h0
    refine ⟨b, c, ?_⟩
    rw [← e]
    exact (lst_least b (by omega) a).2.2 xs hi
end Go.Proofs.YtohcmfobnkaaiaaGreatDoor
