/- Merged: DTrM DRdM. -/
import Derived.Test.YtoccplfnjammjaaGreatDoorDLawBB
import Derived.Test.YtoccplfnjammjaaGreatDoorTrA
set_option linter.unusedSimpArgs false
set_option linter.unusedVariables false
namespace Go.Proofs.YtoccplfnjammjaaGreatDoor
open Go Go.RowKit Tor

section
variable {l : List Tri}
theorem rdyB_of {M : List Nat} {i : Nat} (h1 : ∀ k, k < i → touchAt l i k = true → k ∈ M) (h2 : i ∉ M) : rdyB l M i = true := by
  unfold rdyB
  rw [Bool.and_eq_true, List.all_eq_true]
  refine ⟨fun k hk => ?_, by simpa using h2⟩
  have hk' : k < i := by simpa using hk
  cases ht : touchAt l i k
  · simp
  · have := h1 k hk' ht
    simp [this]
theorem rdyB_to {M : List Nat} {i : Nat} (h : rdyB l M i = true) : (∀ k, k < i → touchAt l i k = true → k ∈ M) ∧ i ∉ M := by
  unfold rdyB at h
  rw [Bool.and_eq_true, List.all_eq_true] at h
  refine ⟨fun k hk ht => ?_, by simpa using h.2⟩
  have := h.1 k (by simpa using hk)
  rw [ht] at this
  simpa using this
theorem lin_of : ∀ (R M : List Nat), (∀ i ∈ R, i < l.length) → (M ++ R).Nodup → (∀ A i B, R = A ++ i :: B → ∀ k, k < i → touchAt l i k = true → k ∈ M ++ A) → LinExt l M R
  | [], _, _, _, _ => trivial
  | i :: r, M, h1, h2, h3 => by
    refine ⟨h1 i (by simp), rdyB_of (fun k hk ht => by simpa using h3 [] i r rfl k hk ht) ?_, lin_of r (M ++ [i]) (fun k hk => h1 k (by simp [hk])) (by simpa using h2) (fun A j B e k hk ht => ?_)⟩
    · intro hm
      exact (List.nodup_append.1 h2).2.2 i hm i (by simp) rfl
    · have := h3 (i :: A) j B (by rw [e]; rfl) k hk ht
      simpa using this
theorem lin_split : ∀ (A : List Nat) (i : Nat) (B M : List Nat), LinExt l M (A ++ i :: B) → i < l.length ∧ rdyB l (M ++ A) i = true
  | [], i, B, M, h => ⟨h.1, by simpa using h.2.1⟩
  | a :: A, i, B, M, h => by
    have := lin_split A i B (M ++ [a]) h.2.2
    simpa using this
end
/-- the level of a work -/
def lv (l : List Tri) (k : Nat) : Nat := (levL l l.length).getD k 0
theorem lv_eq (l : List Tri) {k : Nat} (hk : k < l.length) : lv l k = supL ((List.range k).map fun j => if touchB (xAt l j).b (xAt l k).b = true then lv l j + 1 else 0) := by
  unfold lv
  rw [levL_get l l.length k hk]
  unfold levAt
  congr 1
  apply List.map_congr_left
  intro j hj
  have hj' : j < k := List.mem_range.1 hj
  rw [levL_get l k j hj', levL_get l l.length j (by omega)]
theorem rows_flat_lv (p : Nat) (l : List Tri) : (rowsS p l).flatten.Pairwise fun i k => lv l i ≤ lv l k := by
  rw [List.pairwise_flatten]
  refine ⟨fun r hr => ?_, ?_⟩
  · obtain ⟨n, _, rfl⟩ := List.mem_map.1 hr
    refine List.Pairwise.imp_of_mem (R := fun _ _ => True) (fun {a b} ha hb _ => ?_) (List.pairwise_of_forall (fun _ _ => trivial))
    have h1 := (rowS_mem.1 ha).2.1
    have h2 := (rowS_mem.1 hb).2.1
    unfold lv
    omega
  · unfold rowsS
    rw [List.pairwise_map]
    refine List.Pairwise.imp (fun {a b} hab i hi k hk => ?_) (List.pairwise_lt_range (n := rowsN (levL l l.length)))
    have h1 := (rowS_mem.1 hi).2.1
    have h2 := (rowS_mem.1 hk).2.1
    unfold lv
    omega
/-- the sheet of a diagram is the same lace -/
theorem lin_rows {p : Nat} {l : List Tri} (h : InP p l) : LinExt l [] (rowsS p l).flatten := by
  refine lin_of _ _ (fun i hi => (rows_flat_mem h i).1 hi) (by simpa using rows_flat_nodup p l) (fun A i B e k hk ht => ?_)
  have hi : i < l.length := (rows_flat_mem h i).1 (by rw [e]; simp)
  have hkm : k ∈ (rowsS p l).flatten := (rows_flat_mem h k).2 (by omega)
  have hlt : lv l k < lv l i := lev_lt l hk hi ht
  have hp := rows_flat_lv p l
  rw [e] at hkm hp
  rcases List.mem_append.1 hkm with hA | hB
  · simpa using hA
  · exfalso
    rcases List.mem_cons.1 hB with rfl | hB
    · omega
    · have := (List.pairwise_cons.1 (List.pairwise_append.1 hp).2.1).1 k hB
      omega
theorem trEq_sheetD {p : Nat} {l : List Tri} (h : InP p l) : TrEq l (sheetD p l) :=
  ⟨_, lin_rows h, by rw [(rows_flat_perm h).length_eq, List.length_range], by unfold sheetD; rw [pickL_flat]⟩
theorem supL_congr {a b : List Nat} (h1 : ∀ x ∈ a, 0 < x → x ∈ b) (h2 : ∀ x ∈ b, 0 < x → x ∈ a) : supL a = supL b := by
  refine Nat.le_antisymm (supL_le.2 fun x hx => ?_) (supL_le.2 fun x hx => ?_)
  · rcases Nat.eq_zero_or_pos x with e | e
    · omega
    · exact le_supL (h1 x hx e)
  · rcases Nat.eq_zero_or_pos x with e | e
    · omega
    · exact le_supL (h2 x hx e)
/-- an order of the works keeps their levels -/
theorem lin_lv {l : List Tri} {A : List Nat} (hA : LinExt l [] A) (hl : A.length = l.length) : ∀ (n k : Nat), k < n → ∀ (hk : k < A.length), lv (A.map (xAt l)) k = lv l A[k] := by
  obtain ⟨hnd, hlt, hfull⟩ := lin_full hA hl
  intro n
  induction n with
  | zero => intro k h; omega
  | succ n ih =>
    intro k hkn hk
    have hspl : A = A.take k ++ A[k] :: A.drop (k + 1) := by
      rw [List.getElem_cons_drop hk, List.take_append_drop]
    have hbef : ∀ i, i < A[k] → touchAt l A[k] i = true → i ∈ A.take k := by
      have h0 := hA
      rw [hspl] at h0
      have := (rdyB_to (lin_split _ _ _ _ h0).2).1
      simpa using this
    rw [lv_eq _ (by simpa using hk), lv_eq l (hlt _ (List.getElem_mem hk)), xAt_map hk]
    refine supL_congr (fun x hx h0 => ?_) (fun x hx h0 => ?_)
    · obtain ⟨j, hj, rfl⟩ := List.mem_map.1 hx
      have hj' : j < k := List.mem_range.1 hj
      have hjA : j < A.length := by omega
      rw [xAt_map hjA, ih j (by omega) hjA] at h0 ⊢
      split at h0
      · rename_i ht
        rw [if_pos ht]
        have hlt2 : A[j] < A[k] := by
          refine Classical.byContradiction fun hn => ?_
          have hne : A[j] ≠ A[k] := fun e => by
            have := (List.getElem_inj hnd).1 e
            omega
          have hspl2 : A = A.take j ++ A[j] :: A.drop (j + 1) := by
            rw [List.getElem_cons_drop hjA, List.take_append_drop]
          have h1 := hA
          rw [hspl2] at h1
          have h2 := (rdyB_to (lin_split _ _ _ _ h1).2).1 A[k] (by omega) (by unfold touchAt; rw [touch_symm]; exact ht)
          have h3 : A[k] ∈ A.take j := by simpa using h2
          obtain ⟨i, hi, e⟩ := List.getElem_of_mem h3
          rw [List.getElem_take] at e
          have hi' : i < j := by rw [List.length_take] at hi; omega
          have := (List.getElem_inj hnd).1 e
          omega
        exact List.mem_map.2 ⟨A[j], List.mem_range.2 hlt2, by rw [if_pos ht]⟩
      · omega
    · obtain ⟨i, hi, rfl⟩ := List.mem_map.1 hx
      have hi' : i < A[k] := List.mem_range.1 hi
      split at h0
      · rename_i ht
        rw [if_pos ht]
        have h3 := hbef i hi' ht
        obtain ⟨j, hj, e⟩ := List.getElem_of_mem h3
        rw [List.getElem_take] at e
        have hj' : j < k := by rw [List.length_take] at hj; omega
        have hjA : j < A.length := by omega
        refine List.mem_map.2 ⟨j, List.mem_range.2 hj', ?_⟩
        rw [xAt_map hjA, ih j (by omega) hjA, e, if_pos ht]
      · omega
/-- the rows, work by work -/
def rowsT (p : Nat) (l : List Tri) : List (List Tri) := (rowsS p l).map fun r => r.map (xAt l)
theorem sheetD_rowsT (p : Nat) (l : List Tri) : sheetD p l = (rowsT p l).flatten := by
  unfold sheetD rowsT
  rw [pickL_flat, List.map_flatten]
theorem rowsN_lv (l : List Tri) : rowsN (levL l l.length) = supL ((List.range l.length).map fun i => lv l i + 1) := by
  unfold rowsN
  congr 1
  refine List.ext_getElem (by simp [levL_len]) (fun i h1 h2 => ?_)
  have hi : i < (levL l l.length).length := by simpa using h1
  simp only [List.getElem_map, List.getElem_range]
  unfold lv
  rw [List.getD_eq_getElem?_getD, List.getElem?_eq_getElem hi]; rfl
theorem rowT_mem {p : Nat} {l : List Tri} (h : InP p l) {n : Nat} {x : Tri} : x ∈ (rowS p l (levL l l.length) n).map (xAt l) ↔ ∃ i, i < l.length ∧ lv l i = n ∧ xAt l i = x := by
  rw [List.mem_map]
  constructor
  · rintro ⟨i, hi, rfl⟩
    have := rowS_mem.1 hi
    rw [levL_len] at this
    exact ⟨i, this.1, this.2.1, rfl⟩
  · rintro ⟨i, hi, h1, rfl⟩
    exact ⟨i, rowS_mem.2 ⟨by rw [levL_len]; exact hi, h1, h.row i hi⟩, rfl⟩
theorem rowT_sorted (p : Nat) (l : List Tri) (n : Nat) : ((rowS p l (levL l l.length) n).map (xAt l)).Pairwise fun x y => x.b < y.b := by
  rw [List.pairwise_map]
  exact rowS_sorted p l l.length n
theorem sorted_eq {a b : List Tri} (ha : a.Pairwise fun x y => x.b < y.b) (hb : b.Pairwise fun x y => x.b < y.b) (h : ∀ x, x ∈ a ↔ x ∈ b) : a = b := by
  have na : a.Nodup := ha.imp (fun {x y} h e => by rw [e] at h; omega)
  have nb : b.Nodup := hb.imp (fun {x y} h e => by rw [e] at h; omega)
  refine List.Perm.eq_of_pairwise (le := fun x y => x.b < y.b ∨ x = y) (fun x y _ _ h1 h2 => ?_) (ha.imp (fun {x y} h => .inl h)) (hb.imp (fun {x y} h => .inl h)) ((List.perm_ext_iff_of_nodup na nb).2 h)
  rcases h1 with h1 | h1
  · rcases h2 with h2 | h2
    · omega
    · exact h2.symm
  · exact h1
theorem TrEq.inP {p : Nat} {l m : List Tri} (h : TrEq l m) (hl : InP p l) : InP p m := by
  obtain ⟨A, hA, hA2, rfl⟩ := h
  obtain ⟨_, hlt, _⟩ := lin_full hA hA2
  intro i hi
  have hi' : i < A.length := by simpa using hi
  rw [xAt_map hi']
  exact hl _ (hlt _ (List.getElem_mem hi'))
/-- sheets that are the same lace have the same rows -/
theorem TrEq.rowsT {p : Nat} {l m : List Tri} (h : TrEq l m) (hl : InP p l) : rowsT p m = rowsT p l := by
  have hm := h.inP hl
  have hlen := h.len
  obtain ⟨A, hA, hA2, rfl⟩ := h
  obtain ⟨hnd, hlt, hfull⟩ := lin_full hA hA2
  have hlv := fun k hk => lin_lv hA hA2 A.length k hk hk
  have hN : rowsN (levL (A.map (xAt l)) (A.map (xAt l)).length) = rowsN (levL l l.length) := by
    rw [rowsN_lv, rowsN_lv]
    refine supL_congr (fun x hx _ => ?_) (fun x hx _ => ?_)
    · obtain ⟨k, hk, rfl⟩ := List.mem_map.1 hx
      have hk' : k < A.length := by simpa using hk
      exact List.mem_map.2 ⟨A[k], List.mem_range.2 (hlt _ (List.getElem_mem hk')), by rw [hlv k hk']⟩
    · obtain ⟨i, hi, rfl⟩ := List.mem_map.1 hx
      obtain ⟨k, hk, e⟩ := List.getElem_of_mem (hfull i (by simpa using hi))
      exact List.mem_map.2 ⟨k, by simpa using hk, by rw [hlv k hk, e]⟩
  unfold Proofs.YtoccplfnjammjaaGreatDoor.rowsT rowsS
  rw [hN, List.map_map, List.map_map]
  apply List.map_congr_left
  intro n _
  refine sorted_eq (rowT_sorted p _ n) (rowT_sorted p l n) (fun x => ?_)
  refine (rowT_mem hm).trans (Iff.trans ?_ (rowT_mem hl).symm)
  constructor
  · rintro ⟨k, hk, h1, rfl⟩
    have hk' : k < A.length := by simpa using hk
    exact ⟨A[k], hlt _ (List.getElem_mem hk'), by rw [← hlv k hk', h1], (xAt_map hk').symm⟩
  · rintro ⟨i, hi, h1, rfl⟩
    obtain ⟨k, hk, e⟩ := List.getElem_of_mem (hfull i hi)
    exact ⟨k, by simpa using hk, by rw [hlv k hk, e, h1], by rw [xAt_map hk, e]⟩
/-- the byte of a row's drawing at q -/
def drawQT (L : List (List UInt8)) (r : List Tri) (q : Nat) : UInt8 :=
  match r.find? (fun x => decide (2 * x.b ≤ (q : Int)) && decide ((q : Int) ≤ 2 * x.b + 2)) with
  | some x => if (q : Int) = 2 * x.b then 40 else if (q : Int) = 2 * x.b + 1 then letN (idxB L (lookB x)) else 41
  | none => if q % 2 = 0 then 124 else 32
theorem drawQ_T (l : List Tri) (L : List (List UInt8)) (r : List Nat) (q : Nat) : drawQ l L r q = drawQT L (r.map (xAt l)) q := by
  unfold drawQ drawQT
  rw [List.find?_map]
  show _ = match Option.map (xAt l) (r.find? (fun i => decide (2 * (xAt l i).b ≤ (q : Int)) && decide ((q : Int) ≤ 2 * (xAt l i).b + 2))) with
    | some x => _ | none => _
  cases r.find? (fun i => decide (2 * (xAt l i).b ≤ (q : Int)) && decide ((q : Int) ≤ 2 * (xAt l i).b + 2)) <;> rfl
/-- the text of rows -/
def textT (p : Nat) (R : List (List Tri)) : List UInt8 :=
  joinL (headL p R.length :: (letsL 0 (looksL R.flatten) ++ R.map fun r => (List.range (2 * p - 1)).map (drawQT (looksL R.flatten) r)))
theorem textD_T (p : Nat) (l : List Tri) : textD p l = textT p (rowsT p l) := by
  unfold textD textT linesD
  rw [← sheetD_rowsT]
  congr 3
  · unfold rowsT; rw [List.length_map]
  · unfold rowsT
    rw [List.map_map]
    apply List.map_congr_left
    intro r _
    show drawR p l _ r = _
    unfold drawR
    apply List.map_congr_left
    intro q _
    exact drawQ_T l _ r q
/-- sheets that are the same lace have the same drawing -/
theorem TrEq.textD {p : Nat} {l m : List Tri} (h : TrEq l m) (hl : InP p l) : textD p m = textD p l := by rw [textD_T, textD_T, h.rowsT hl]
theorem TrEq.sheetD {p : Nat} {l m : List Tri} (h : TrEq l m) (hl : InP p l) : sheetD p m = sheetD p l := by rw [sheetD_rowsT, sheetD_rowsT, h.rowsT hl]
theorem textD_sheetD {p : Nat} {l : List Tri} (h : InP p l) : textD p (sheetD p l) = textD p l := (trEq_sheetD h).textD h
theorem sheetD_sheetD {p : Nat} {l : List Tri} (h : InP p l) : sheetD p (sheetD p l) = sheetD p l := (trEq_sheetD h).sheetD h
end Go.Proofs.YtoccplfnjammjaaGreatDoor

namespace Go.Proofs.YtoccplfnjammjaaGreatDoor
open Go Go.RowKit Tor

theorem splD_cut (c : UInt8) (r : List UInt8) : ∀ a : List UInt8, (∀ x ∈ a, x ≠ c) → spl c (a ++ c :: r) = a :: spl c r
  | [], _ => by simp [spl]
  | b :: t, h => by
    have ih := splD_cut c r t (fun x hx => h x (by simp [hx]))
    rw [List.cons_append, spl, if_neg (h b (by simp)), ih]
theorem splD_one (c : UInt8) : ∀ a : List UInt8, (∀ x ∈ a, x ≠ c) → spl c a = [a]
  | [], _ => rfl
  | b :: t, h => by rw [spl, if_neg (h b (by simp)), splD_one c t (fun x hx => h x (by simp [hx]))]
theorem decD_noblank (n : Int) : ∀ c ∈ Lib.itoa n, c ≠ 32 ∧ c ≠ 10 := fun c hc => by
  unfold Lib.itoa at hc
  split at hc
  · rcases List.mem_cons.1 hc with hc | hc
    · subst hc; decide
    · have := List.all_eq_true.1 (dec_all _) _ hc
      constructor <;> (rintro rfl; exact absurd this (by decide))
  · have := List.all_eq_true.1 (dec_all _) _ hc
    constructor <;> (rintro rfl; exact absurd this (by decide))
theorem intD_itoa {n least most : Int} (h0 : least ≤ n) (h1 : n ≤ most) (h2 : -1000 ≤ n) (h3 : n ≤ 1000) : intW (Lib.itoa n) least most = (n, 0) := by
  obtain ⟨a, b⟩ := itoa_facts n
  unfold intW
  rw [if_neg (by omega), a, if_neg (by decide), b, if_neg (by omega)]
theorem threeD_head (p n : Nat) : threeP (headL p n) dgB = some (Lib.itoa p, Lib.itoa n) := by
  have e : spl 32 (headL p n) = [dgB, Lib.itoa p, Lib.itoa n] := by
    show spl 32 (dgB ++ 32 :: (Lib.itoa p ++ 32 :: Lib.itoa n)) = _
    rw [splD_cut 32 _ _ (by decide), splD_cut 32 _ _ (fun c hc => (decD_noblank p c hc).1), splD_one 32 _ (fun c hc => (decD_noblank n c hc).1)]
  rw [threeP_pick, e]
  unfold pick3
  exact if_pos rfl
theorem threeD_let {i : Nat} {x : List UInt8} (hi : i < 52) (hx : ∀ c ∈ x, c ≠ 32) : threeP (letL i x) ltB' = some ([letN i], x) := by
  have e : spl 32 (letL i x) = [ltB', [letN i], x] := by
    show spl 32 (ltB' ++ 32 :: ([letN i] ++ 32 :: x)) = _
    rw [splD_cut 32 _ _ (by decide), splD_cut 32 _ _ (fun c hc => by simp at hc; subst hc; exact (letN_nb i hi).1), splD_one 32 _ hx]
  rw [threeP_pick, e]
  unfold pick3
  exact if_pos rfl
/-- a look as it is said -/
def LkOk (x : List UInt8) : Prop := x ≠ [] ∧ sayB x = true ∧ ∀ c ∈ x, c ≠ 32 ∧ c ≠ 10
theorem lookLn_let {i : Nat} {x : List UInt8} (hi : i < 52) (hx : LkOk x) : lookLn i (letL i x) = some x := by
  unfold lookLn
  rw [threeD_let hi (fun c hc => (hx.2.2 c hc).1)]
  simp only
  rw [if_pos ⟨hi, trivial, hx.1, hx.2.1⟩]
theorem letsL_cons (i : Nat) (x : List UInt8) (K : List (List UInt8)) : letsL i (x :: K) = letL i x :: letsL (i + 1) K := by
  unfold letsL
  rw [List.length_cons, List.range_succ_eq_map, List.map_cons, List.map_map]
  simp only [Nat.add_zero, List.getD_cons_zero, List.cons.injEq, true_and]
  apply List.map_congr_left
  intro k _
  simp [Nat.add_assoc, Nat.add_comm 1 k]
theorem lookP_lets (R : List (List UInt8)) (hR : ∀ s r, R = s :: r → ltB'.isPrefixOf s = false) : ∀ (K acc : List (List UInt8)), (∀ x ∈ K, LkOk x) → acc.length + K.length ≤ 52 → lookP acc (letsL acc.length K ++ R) = .ok (acc ++ K, R)
  | [], acc, _, _ => by
    simp only [letsL, List.length_nil, List.range_zero, List.map_nil, List.nil_append, List.append_nil]
    cases R with
    | nil => rfl
    | cons s r => rw [lookP, hR s r rfl]; rfl
  | x :: K, acc, h, hl => by
    simp only [List.length_cons] at hl
    have hp : ltB'.isPrefixOf (letL acc.length x) = true := by unfold letL ltB'; simp
    rw [letsL_cons, List.cons_append, lookP, if_pos hp, lookLn_let (by omega) (h x (by simp))]
    simp only
    have ih := lookP_lets R hR K (acc ++ [x]) (fun y hy => h y (by simp [hy])) (by simp; omega)
    rw [List.length_append, List.length_singleton] at ih
    rw [ih]; simp

section
variable {p : Nat} {K : List (List UInt8)} {r : List Tri}
/-- works of a row: in order, apart, in their places -/
def RowOk (p : Nat) (r : List Tri) : Prop := (r.Pairwise fun x y => x.b + 2 ≤ y.b) ∧ ∀ x ∈ r, 0 ≤ x.b ∧ x.b + 2 ≤ p
theorem RowOk.lt (h : RowOk p r) : r.Pairwise fun x y => x.b < y.b := h.1.imp (fun {x y} h => by omega)
theorem RowOk.apart (h : RowOk p r) {x y : Tri} (hx : x ∈ r) (hy : y ∈ r) : x = y ∨ x.b + 2 ≤ y.b ∨ y.b + 2 ≤ x.b := by
  obtain ⟨i, hi, rfl⟩ := List.getElem_of_mem hx
  obtain ⟨j, hj, rfl⟩ := List.getElem_of_mem hy
  rcases Nat.lt_trichotomy i j with e | e | e
  · exact .inr (.inl (List.pairwise_iff_getElem.1 h.1 i j hi hj e))
  · subst e; exact .inl rfl
  · exact .inr (.inr (List.pairwise_iff_getElem.1 h.1 j i hj hi e))
theorem drawQT_none {L : List (List UInt8)} {q : Nat} (h : ∀ x ∈ r, ¬ (2 * x.b ≤ (q : Int) ∧ (q : Int) ≤ 2 * x.b + 2)) : drawQT L r q = if q % 2 = 0 then 124 else 32 := by
  unfold drawQT
  have : r.find? (fun x => decide (2 * x.b ≤ (q : Int)) && decide ((q : Int) ≤ 2 * x.b + 2)) = none := List.find?_eq_none.2 (fun x hx => by
    have := h x hx
    simpa using this)
  rw [this]
theorem drawQT_some {L : List (List UInt8)} {q : Nat} (hr : RowOk p r) {x : Tri} (hx : x ∈ r) (h : 2 * x.b ≤ (q : Int) ∧ (q : Int) ≤ 2 * x.b + 2) : drawQT L r q = if (q : Int) = 2 * x.b then 40 else if (q : Int) = 2 * x.b + 1 then letN (idxB L (lookB x)) else 41 := by
  unfold drawQT
  cases hf : r.find? (fun x => decide (2 * x.b ≤ (q : Int)) && decide ((q : Int) ≤ 2 * x.b + 2)) with
  | none => exact absurd h (by have := List.find?_eq_none.1 hf x hx; simpa using this)
  | some y =>
    have hy := List.mem_of_find?_eq_some hf
    have hp := List.find?_some hf
    simp only [Bool.and_eq_true, decide_eq_true_eq] at hp
    have : y = x := by
      rcases hr.apart hy hx with e | e | e
      · exact e
      · omega
      · omega
    rw [this]
theorem filter_from (hr : RowOk p r) {q : Nat} {x : Tri} (hx : x ∈ r) (hb : x.b = (q : Int)) : r.filter (fun y => decide ((q : Int) ≤ y.b)) = x :: r.filter (fun y => decide (((q + 2 : Nat) : Int) ≤ y.b)) := by
  refine sorted_eq (hr.lt.filter _) (List.pairwise_cons.2 ⟨fun y hy => ?_, hr.lt.filter _⟩) (fun y => ?_)
  · have := (List.mem_filter.1 hy).2
    simp only [decide_eq_true_eq] at this
    omega
  · simp only [List.mem_cons, List.mem_filter, decide_eq_true_eq]
    constructor
    · rintro ⟨h1, h2⟩
      rcases hr.apart hx h1 with e | e | e
      · exact .inl e.symm
      · exact .inr ⟨h1, by omega⟩
      · omega
    · rintro (rfl | ⟨h1, h2⟩)
      · exact ⟨hx, by omega⟩
      · exact ⟨h1, by omega⟩
theorem filter_skip {q : Nat} (h : ∀ x ∈ r, x.b ≠ (q : Int)) : r.filter (fun y => decide ((q : Int) ≤ y.b)) = r.filter (fun y => decide (((q + 1 : Nat) : Int) ≤ y.b)) := by
  apply List.filter_congr
  intro x hx
  have := h x hx
  rw [Bool.eq_iff_iff, decide_eq_true_eq, decide_eq_true_eq]
  omega
theorem fAt_idx {K : List (List UInt8)} {x : List UInt8} (hK : K.length ≤ 52) (hx : x ∈ K) : (lettersL.take K.length).findIdx? (· == letN (idxB K x)) = some (idxB K x) ∧ K.getD (idxB K x) [] = x := by
  have hi : idxB K x < K.length := List.findIdx_lt_length_of_exists ⟨x, hx, by simp⟩
  have hg : K[idxB K x] = x := by
    have := List.findIdx_getElem (w := hi)
    exact of_decide_eq_true this
  have hlen : (lettersL.take K.length).length = K.length := by rw [List.length_take, letters_len]; omega
  refine ⟨?_, by rw [List.getD_eq_getElem?_getD, List.getElem?_eq_getElem hi, hg]; rfl⟩
  have hget : ∀ m, m < K.length → (lettersL.take K.length)[m]? = some (letN m) := fun m hm => by
    rw [List.getElem?_take_of_lt hm, letters_get m (by omega)]
  refine List.findIdx?_eq_some_iff_getElem.2 ⟨by rw [hlen]; exact hi, ?_, fun j hj => ?_⟩
  · have := hget _ hi
    rw [List.getElem?_eq_getElem (by rw [hlen]; exact hi)] at this
    rw [Option.some.inj this]; simp
  · have := hget j (by omega)
    rw [List.getElem?_eq_getElem (by rw [hlen]; omega)] at this
    rw [Option.some.inj this]
    simp only [beq_iff_eq]
    intro e
    have := letN_inj j (by omega) _ (by omega) e
    omega
/-- the bytes of a row -/
def rowB (p : Nat) (K : List (List UInt8)) (r : List Tri) : List UInt8 := (List.range (2 * p - 1)).map (drawQT K r)
theorem rowB_get (q : Nat) (hq : q < 2 * p - 1) : (rowB p K r).getD q 0 = drawQT K r q := by
  unfold rowB
  rw [List.getD_eq_getElem?_getD, List.getElem?_eq_getElem (by simpa using hq)]; simp
theorem rowO_draw (hK : K.length ≤ 52) (hr : RowOk p r) (hm : ∀ x ∈ r, lookB x ∈ K) (hw : ∀ x ∈ r, ∀ q : Nat, x.b = (q : Int) → workD (lookB x) q = x) :
    ∀ (k q : Nat) (acc : List Tri), p ≤ q + k → (∀ x ∈ r, x.b + 1 ≠ (q : Int)) → rowO p K (rowB p K r) q acc = some (acc ++ r.filter fun y => decide ((q : Int) ≤ y.b)) := by
  intro k
  induction k using Nat.strongRecOn with
  | _ k ih =>
    intro q acc hk hq
    by_cases hp : q < p
    · rw [rowO_step hp]
      have hsep : ¬ (0 < q ∧ (rowB p K r).getD (2 * q - 1) 0 ≠ 32) := by
        rintro ⟨h0, h1⟩
        rw [rowB_get _ (by omega), drawQT_none (fun x hx h => by have := hq x hx; omega), if_neg (by omega)] at h1
        exact h1 rfl
      rw [if_neg hsep, rowB_get _ (by omega)]
      by_cases hx : ∃ x ∈ r, x.b = (q : Int)
      · obtain ⟨x, hx, hb⟩ := hx
        have hin := (hr.2 x hx).2
        have e0 : drawQT K r (2 * q) = 40 := by rw [drawQT_some hr hx (by omega), if_pos (by omega)]
        have e1 : drawQT K r (2 * q + 1) = letN (idxB K (lookB x)) := by rw [drawQT_some hr hx (by omega), if_neg (by omega), if_pos (by omega)]
        have e2 : drawQT K r (2 * q + 2) = 41 := by rw [drawQT_some hr hx (by omega), if_neg (by omega), if_neg (by omega)]
        rw [e0, if_neg (by decide), rowB_get _ (by omega), e2, if_neg (by rintro (h | h | h); exact h rfl; omega; exact h rfl), rowB_get _ (by omega), e1]
        obtain ⟨f1, f2⟩ := fAt_idx hK (hm x hx)
        rw [f1]
        simp only
        rw [f2, hw x hx q hb, ih (k - 2) (by omega) (q + 2) _ (by omega) (fun y hy => by
          rcases hr.apart hx hy with e | e | e
          · subst e; omega
          · omega
          · omega), filter_from hr hx hb]
        simp
      · have hx' : ∀ x ∈ r, x.b ≠ (q : Int) := fun x h e => hx ⟨x, h, e⟩
        have e0 : drawQT K r (2 * q) = 124 := by
          rw [drawQT_none (fun x h h2 => by have := hq x h; have := hx' x h; omega), if_pos (by omega)]
        rw [e0, if_pos rfl, ih (k - 1) (by omega) (q + 1) _ (by omega) (fun x h => by have := hx' x h; omega), filter_skip hx']
    · rw [rowO_end (by omega)]
      have : r.filter (fun y => decide ((q : Int) ≤ y.b)) = [] := List.filter_eq_nil_iff.2 fun x hx => by
        have := hr.2 x hx
        simp only [decide_eq_true_eq]; omega
      rw [this, List.append_nil]
theorem rowP_draw (hK : K.length ≤ 52) (hr : RowOk p r) (hm : ∀ x ∈ r, lookB x ∈ K) (hw : ∀ x ∈ r, ∀ q : Nat, x.b = (q : Int) → workD (lookB x) q = x) : rowP p K (rowB p K r) = some r := by
  rw [rowP_eq (by unfold rowB; simp), rowO_draw hK hr hm hw p 0 [] (by omega) (fun x hx => by have := (hr.2 x hx).1; omega)]
  rw [List.nil_append]
  congr 1
  exact List.filter_eq_self.2 fun x hx => by have := (hr.2 x hx).1; simp; omega
end
theorem rowsP_draw {p : Nat} {K : List (List UInt8)} (hK : K.length ≤ 52) : ∀ (R : List (List Tri)) (acc : List Tri), (∀ r ∈ R, RowOk p r ∧ (∀ x ∈ r, lookB x ∈ K) ∧ ∀ x ∈ r, ∀ q : Nat, x.b = (q : Int) → workD (lookB x) q = x) → rowsP p K R.length acc (R.map (rowB p K)) = .ok (acc ++ R.flatten, [])
  | [], acc, _ => by simp [rowsP]
  | r :: R, acc, h => by
    obtain ⟨h1, h2, h3⟩ := h r (by simp)
    rw [List.length_cons, List.map_cons, rowsP, rowP_draw hK h1 h2 h3]
    simp only
    rw [rowsP_draw hK R (acc ++ r) (fun y hy => h y (by simp [hy]))]
    simp

/-- ### the whole text -/
theorem OkD.word {p : Nat} {l : List Tri} (h : OkD p l) : ∀ (k : Nat) (hk : k < l.length), (l[k].a = 1 ∨ l[k].a = 2) ∧ (l[k].a = 2 → l[k].s.size = 0) ∧ wordE l[k].s = 0 := fun k hk => by
  have h0 := h.chk
  unfold sheetE at h0
  split at h0
  · cases h0
  split at h0
  · cases h0
  split at h0
  · cases h0
  rename_i h3
  split at h0
  · cases h0
  rename_i h4
  have g3 := any_not (by simpa using h3) k hk
  have g4 := any_not (by simpa using h4) k hk
  simp only [badW, Bool.or_eq_false_iff, decide_eq_false_iff_not] at g3
  simp only [wrongW, decide_eq_false_iff_not] at g4
  refine ⟨by omega, fun e => ?_, Classical.not_not.1 g4⟩
  exact Classical.byContradiction fun e2 => g3.2 ⟨e, e2⟩
theorem word_bytes {s : ByteArray} (h : wordE s = 0) : ∀ c ∈ s.data.toList, isLetter c = true := by
  unfold wordE at h
  split at h
  · cases h
  split at h
  · rename_i hl; exact List.all_eq_true.1 hl
  · cases h
theorem letter_nb {c : UInt8} (h : isLetter c = true) : c ≠ 32 ∧ c ≠ 10 ∧ c ≠ 115 ∧ c ≠ 45 := by
  unfold isLetter at h
  refine ⟨?_, ?_, ?_, ?_⟩ <;> (rintro rfl; exact absurd h (by decide))
theorem size0_empty {s : ByteArray} (h : s.size = 0) : s = bN [] := by
  rw [← bN_self s]
  have : s.data.toList.length = 0 := by rw [bsize]; exact h
  rw [List.length_eq_zero_iff.1 this]
/-- the work that a look says is the work -/
theorem work_look {x : Tri} (h1 : x.a = 1 ∨ x.a = 2) (h2 : x.a = 2 → x.s.size = 0) (h3 : wordE x.s = 0) : LkOk (lookB x) ∧ ∀ q : Nat, x.b = (q : Int) → workD (lookB x) q = x := by
  obtain ⟨a, b, s⟩ := x
  simp only at h1 h2 h3
  unfold lookB
  by_cases e : a = 2
  · subst e
    rw [if_pos rfl]
    refine ⟨⟨by decide, by decide, by decide⟩, ?_⟩
    rintro q rfl
    have := size0_empty (h2 rfl)
    subst this
    rfl
  · rw [if_neg e]
    have ha : a = 1 := by omega
    subst ha
    by_cases hs : s.size = 0
    · rw [if_pos hs]
      refine ⟨⟨by decide, by decide, by decide⟩, ?_⟩
      rintro q rfl
      have := size0_empty hs
      subst this
      rfl
    · rw [if_neg hs]
      have hne : s.data.toList ≠ [] := fun e => hs (by rw [← bsize, e]; rfl)
      have hw := word_bytes h3
      refine ⟨⟨hne, ?_, fun c hc => ?_⟩, ?_⟩
      · unfold sayB
        rw [bN_self, h3]; simp
      · have := letter_nb (hw c hc)
        exact ⟨this.1, this.2.1⟩
      · rintro q rfl
        unfold workD
        have n1 : s.data.toList ≠ [115, 101, 119] := fun e => by
          have := hw 115 (by rw [e]; simp)
          exact absurd this (by decide)
        have n2 : s.data.toList ≠ [45] := fun e => by
          have := hw 45 (by rw [e]; simp)
          exact absurd this (by decide)
        rw [if_neg n1, if_neg n2, bN_self]
theorem sheetD_mem {p : Nat} {l : List Tri} {x : Tri} (h : x ∈ sheetD p l) : ∃ (k : Nat) (hk : k < l.length), x = l[k] := by
  unfold sheetD pickL at h
  obtain ⟨r, hr, hx⟩ := List.mem_flatMap.1 h
  obtain ⟨i, hi, rfl⟩ := List.mem_map.1 hx
  exact ⟨i, row_in hr i hi, xAt_of _⟩
theorem rowsT_ok {p : Nat} {l : List Tri} (h : OkD p l) {r : List Tri} (hr : r ∈ rowsT p l) : RowOk p r ∧ ∀ x ∈ r, x ∈ sheetD p l := by
  have hr0 := hr
  unfold rowsT at hr
  obtain ⟨r0, h0, rfl⟩ := List.mem_map.1 hr
  refine ⟨⟨?_, fun x hx => ?_⟩, fun x hx => by rw [sheetD_rowsT]; exact List.mem_flatten.2 ⟨_, hr0, hx⟩⟩
  · obtain ⟨n, _, rfl⟩ := List.mem_map.1 h0
    rw [List.pairwise_map]
    refine (rowS_sorted p l l.length n).imp_of_mem (fun {a b} ha hb hab => ?_)
    have := rowS_apart p l l.length n a ha b hb (fun e => by subst e; omega)
    omega
  · obtain ⟨i, hi, rfl⟩ := List.mem_map.1 hx
    have hil := row_in h0 i hi
    have := h.bd i hil
    rw [xAt_of hil]
    omega
theorem looks_ok {p : Nat} {l : List Tri} (h : OkD p l) : ∀ x ∈ looksL (sheetD p l), LkOk x := fun x hx => by
  rcases (looksF_mem _ _ _).1 hx with hx | ⟨y, hy, rfl⟩
  · cases hx
  · obtain ⟨k, hk, rfl⟩ := sheetD_mem hy
    obtain ⟨a, b, c⟩ := h.word k hk
    exact (work_look a b c).1
theorem rowB_head {p : Nat} (h2 : 2 ≤ p) {K : List (List UInt8)} {r : List Tri} (hr : RowOk p r) : ltB'.isPrefixOf (rowB p K r) = false := by
  have h0 : (rowB p K r).getD 0 0 = 124 ∨ (rowB p K r).getD 0 0 = 40 := by
    rw [rowB_get 0 (by omega)]
    by_cases hx : ∃ x ∈ r, x.b = 0
    · obtain ⟨x, hx, hb⟩ := hx
      right
      rw [drawQT_some hr hx (by omega), if_pos (by omega)]
    · left
      rw [drawQT_none (fun x hx' h => hx ⟨x, hx', by have := (hr.2 x hx').1; omega⟩)]; rfl
  cases hb : rowB p K r with
  | nil => rfl
  | cons c t =>
    rw [hb] at h0
    have : c = 124 ∨ c = 40 := by simpa using h0
    rcases this with rfl | rfl <;> rfl
theorem linesD_T (p : Nat) (l : List Tri) : linesD p l = headL p (rowsT p l).length :: (letsL 0 (looksL (sheetD p l)) ++ (rowsT p l).map (rowB p (looksL (sheetD p l)))) := by
  unfold linesD
  congr 2
  · unfold rowsT; rw [List.length_map]
  · unfold rowsT
    rw [List.map_map]
    apply List.map_congr_left
    intro r _
    show drawR p l _ r = _
    unfold drawR rowB
    apply List.map_congr_left
    intro q _
    exact drawQ_T l _ r q
theorem readD_draw {p : Nat} {l : List Tri} (h : OkD p l) (h52 : (looksL (sheetD p l)).length ≤ 52) : readD (linesD p l) = .ok (p, sheetD p l) := by
  have hrl : (rowsT p l).length ≤ 400 := by
    unfold rowsT
    rw [List.length_map]
    exact Nat.le_trans (rowsS_len p l) h.len
  have hp2 := h.p2
  have hp24 := h.p24
  have e1 : intW (Lib.itoa (p : Int)) 2 24 = ((p : Int), 0) := intD_itoa (by omega) (by omega) (by omega) (by omega)
  have e2 : intW (Lib.itoa ((rowsT p l).length : Int)) 0 400 = (((rowsT p l).length : Int), 0) := intD_itoa (by omega) (by omega) (by omega) (by omega)
  rw [linesD_T]
  unfold readD
  simp only
  rw [threeD_head]
  simp only
  rw [e1, e2, if_neg (by simp)]
  simp only [Int.toNat_natCast]
  have hlk := lookP_lets ((rowsT p l).map (rowB p (looksL (sheetD p l)))) (fun s r e => by
    cases hR : rowsT p l with
    | nil => rw [hR] at e; cases e
    | cons a b =>
      rw [hR, List.map_cons] at e
      have := (List.cons.inj e).1
      rw [← this]
      exact rowB_head hp2 (rowsT_ok h (by rw [hR]; simp)).1) (looksL (sheetD p l)) [] (looks_ok h) (by simpa using h52)
  rw [List.length_nil, List.nil_append] at hlk
  rw [hlk]
  simp only
  rw [rowsP_draw h52 (rowsT p l) [] (fun r hr => by
    obtain ⟨h1, h2⟩ := rowsT_ok h hr
    refine ⟨h1, fun x hx => ?_, fun x hx => ?_⟩
    · exact (looksF_mem _ _ _).2 (.inr ⟨x, h2 x hx, rfl⟩)
    · obtain ⟨k, hk, rfl⟩ := sheetD_mem (h2 x hx)
      obtain ⟨a, b, c⟩ := h.word k hk
      exact (work_look a b c).2)]
  simp only [List.nil_append]
  rw [← sheetD_rowsT]
/-- the lines have no line ends in them -/
theorem linesD_no10 {p : Nat} {l : List Tri} (h : OkD p l) (h52 : (looksL (sheetD p l)).length ≤ 52) : ∀ s ∈ linesD p l, ∀ c ∈ s, c ≠ 10 := by
  rw [linesD_T]
  intro s hs c hc
  rcases List.mem_cons.1 hs with rfl | hs
  · unfold headL at hc
    rcases List.mem_append.1 hc with hc | hc
    · have hd : ∀ c ∈ ([100, 105, 97, 103, 114, 97, 109, 32] : List UInt8), c ≠ 10 := by decide
      exact hd c hc
    · rcases List.mem_append.1 hc with hc | hc
      · exact (decD_noblank _ c hc).2
      · rcases List.mem_cons.1 hc with rfl | hc
        · decide
        · exact (decD_noblank _ c hc).2
  · rcases List.mem_append.1 hs with hs | hs
    · unfold letsL at hs
      obtain ⟨k, hk, rfl⟩ := List.mem_map.1 hs
      have hk' : k < (looksL (sheetD p l)).length := by simpa using hk
      unfold letL at hc
      rcases List.mem_append.1 hc with hc | hc
      · have hd : ∀ c ∈ ([108, 101, 116, 116, 101, 114, 32] : List UInt8), c ≠ 10 := by decide
        exact hd c hc
      · rcases List.mem_cons.1 hc with rfl | hc
        · exact (letN_nb _ (by omega)).2.1
        · rcases List.mem_cons.1 hc with rfl | hc
          · decide
          · rw [List.getD_eq_getElem?_getD, List.getElem?_eq_getElem hk'] at hc
            exact ((looks_ok h _ (List.getElem_mem hk')).2.2 c hc).2
    · obtain ⟨r, hr, rfl⟩ := List.mem_map.1 hs
      obtain ⟨h1, h2⟩ := rowsT_ok h hr
      unfold rowB at hc
      obtain ⟨q, _, rfl⟩ := List.mem_map.1 hc
      unfold drawQT
      split
      · rename_i x hx
        have hx' := List.mem_of_find?_eq_some hx
        have hi : idxB (looksL (sheetD p l)) (lookB x) < (looksL (sheetD p l)).length := List.findIdx_lt_length_of_exists ⟨lookB x, (looksF_mem _ _ _).2 (.inr ⟨x, h2 x hx', rfl⟩), by simp⟩
        split
        · decide
        · split
          · exact (letN_nb _ (by omega)).2.1
          · decide
      · split <;> decide
theorem spl_joinL : ∀ (X : List (List UInt8)), (∀ s ∈ X, ∀ c ∈ s, c ≠ 10) → spl 10 (joinL X) = X ++ [[]]
  | [], _ => rfl
  | s :: r, h => by
    show spl 10 ((s ++ [10]) ++ joinL r) = _
    rw [List.append_assoc, List.singleton_append, splD_cut 10 _ _ (h s (by simp)), spl_joinL r (fun y hy => h y (by simp [hy]))]
    rfl
theorem textD_len {p : Nat} {l : List Tri} (h : OkD p l) (h52 : (looksL (sheetD p l)).length ≤ 52) : (textD p l).length ≤ 30000 := by
  rw [← partD_all]; exact partD_len h h52 _
theorem linesP_textD {p : Nat} {l : List Tri} (h : OkD p l) (h52 : (looksL (sheetD p l)).length ≤ 52) : linesP (textD p l) = (linesD p l, 0) := by
  have hn := linesD_no10 h h52
  have hl : linL (textD p l) = linesD p l := by
    unfold linL textD
    rw [spl_joinL _ hn, List.dropLast_concat]
  have hlen := textD_len h h52
  have hlast : (textD p l).getLast? = some 10 := by
    unfold textD
    have hne : linesD p l ≠ [] := by unfold linesD; simp
    obtain ⟨X, s, e⟩ : ∃ X s, linesD p l = X ++ [s] := ⟨_, _, (List.dropLast_concat_getLast hne).symm⟩
    rw [e, joinL_snoc, ← List.append_assoc]
    simp
  have hcnt : (textD p l).count 10 = (linesD p l).length := by rw [← linL_length, hl]
  have hll := linesD_len p l
  have hrl : (rowsS p l).length ≤ 400 := Nat.le_trans (rowsS_len p l) h.len
  unfold linesP
  rw [if_neg (by omega), if_neg (by intro e; rw [e] at hlast; simp at hlast), if_neg (by rw [hlast]; simp), hcnt, if_neg (by omega), hl]
theorem chk_parts {p : Int} {l : List Tri} (h : sheetE p l = 0) : ¬ (24 < p ∨ 400 < l.length ∨ l.any longW = true) ∧ ¬ p < 2 ∧ ¬ l.any (badW p) = true ∧ ¬ l.any wrongW = true := by
  unfold sheetE at h
  split at h
  · cases h
  rename_i h1
  split at h
  · cases h
  rename_i h2
  split at h
  · cases h
  rename_i h3
  split at h
  · cases h
  rename_i h4
  exact ⟨h1, h2, h3, h4⟩
theorem OkD.sheet {p : Nat} {l : List Tri} (h : OkD p l) : OkD p (sheetD p l) := by
  have hin := h.inP
  have hlen := sheetD_len hin
  have hbd : ∀ (k : Nat) (hk : k < (sheetD p l).length), 0 ≤ (sheetD p l)[k].b ∧ (sheetD p l)[k].b ≤ (p : Int) - 2 := fun k hk => by
    obtain ⟨j, hj, e⟩ := sheetD_mem (List.getElem_mem hk)
    rw [e]; exact h.bd j hj
  refine ⟨?_, h.p2, h.p24, hbd, by rw [hlen]; exact h.len⟩
  have hall : ∀ f : Tri → Bool, l.any f ≠ true → (sheetD p l).any f ≠ true := fun f hf e => by
    obtain ⟨x, hx, he⟩ := List.any_eq_true.1 e
    obtain ⟨j, hj, rfl⟩ := sheetD_mem hx
    exact hf (List.any_eq_true.2 ⟨_, List.getElem_mem hj, he⟩)
  obtain ⟨g1, g2, g3, g4⟩ := chk_parts h.chk
  have hle := h.len
  unfold sheetE
  rw [if_neg (fun g => by
    rcases g with g | g | g
    · exact g1 (.inl g)
    · omega
    · exact hall longW (fun e => g1 (.inr (.inr e))) g), if_neg g2, if_neg (hall _ g3), if_neg (hall _ g4)]
/-- what is drawn is read again -/
theorem readA_draw {p : Nat} {l : List Tri} (h : OkD p l) (h52 : (looksL (sheetD p l)).length ≤ 52) : readA (textD p l) = .ok (p, sheetD p l) := by
  unfold readA
  rw [linesP_textD h h52, if_neg (by simp)]
  unfold readE
  simp only
  rw [readD_draw h h52]
  simp only
  have hd : drawA p (sheetD p l) = (textD p l, 0) := by
    unfold drawA
    rw [if_pos h.sheet.chk]
    unfold drawE
    rw [sheetD_sheetD h.inP, if_neg (by omega), textD_sheetD h.inP]
  rw [if_pos hd]
end Go.Proofs.YtoccplfnjammjaaGreatDoor
