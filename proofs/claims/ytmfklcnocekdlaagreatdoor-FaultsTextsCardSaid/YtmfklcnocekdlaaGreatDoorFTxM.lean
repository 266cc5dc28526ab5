/- Plain: the texts of faults. -/
import Derived.Test.YtmfklcnocekdlaaGreatDoorKinds
import Derived.Test.YtmfklcnocekdlaaGreatDoorLinM
import Derived.Test.YtmfklcnocekdlaaGreatDoorNumM
set_option linter.unusedSimpArgs false
set_option linter.unusedVariables false
namespace Go.Proofs.YtmfklcnocekdlaaGreatDoor
open Go Go.RowKit Tor

def fnm (k : Int) : List UInt8 := (kname k).data.toList
def piecesF (f : Flt) : List (List UInt8) := [fnm f.k, Lib.itoa f.st] ++ (if klet f.k = true then [Lib.itoa f.lt] else []) ++ (if f.k = 2 then [[UInt8.ofNat f.wi.toNat]] else if f.k = 5 then [Lib.itoa f.wi] else [])
def joinS : List (List UInt8) → List UInt8
  | [] => []
  | [a] => a
  | a :: b :: r => a ++ 32 :: joinS (b :: r)
def textF (f : Flt) : List UInt8 := joinS (piecesF f)
/-- a fault that can be written -/
structure FOk (f : Flt) : Prop where
  sh : shapedF f = true
  s0 : 0 ≤ f.st
  s1 : f.st ≤ 999
  l0 : 0 ≤ f.lt
  l1 : f.lt ≤ 16
theorem FOk.k {f : Flt} (h : FOk f) : 1 ≤ f.k ∧ f.k ≤ 6 := Classical.byContradiction fun hn => by
  have := shapedF_out hn
  rw [h.sh] at this; cases this
theorem FOk.w {f : Flt} (h : FOk f) : f.wi ∈ withsL f.k := by
  have := shapedF_in h.k
  rw [h.sh] at this
  have := (Bool.and_eq_true _ _ ▸ this.symm : _ ∧ _).1
  exact List.contains_iff_mem.1 this
theorem FOk.l {f : Flt} (h : FOk f) (hk : klet f.k = false) : f.lt = 0 := by
  have := shapedF_in h.k
  rw [h.sh, hk] at this
  have := (Bool.and_eq_true _ _ ▸ this.symm : _ ∧ _).2
  simpa using this
theorem withs_bd {k x : Int} (h : x ∈ withsL k) : -1 ≤ x ∧ x < 128 := by
  unfold withsL at h
  split at h
  · simp [faultLetters] at h; omega
  split at h
  · simp at h; omega
  · simp at h; omega
theorem spl_cut (c : UInt8) (r : List UInt8) : ∀ a : List UInt8, (∀ x ∈ a, x ≠ c) → spl c (a ++ c :: r) = a :: spl c r
  | [], _ => by simp [spl]
  | b :: t, h => by
    have ih := spl_cut c r t (fun x hx => h x (by simp [hx]))
    rw [List.cons_append, spl, if_neg (h b (by simp)), ih]
theorem spl_one (c : UInt8) : ∀ a : List UInt8, (∀ x ∈ a, x ≠ c) → spl c a = [a]
  | [], _ => rfl
  | b :: t, h => by rw [spl, if_neg (h b (by simp)), spl_one c t (fun x hx => h x (by simp [hx]))]
theorem spl_joinS : ∀ l : List (List UInt8), l ≠ [] → (∀ p ∈ l, ∀ c ∈ p, c ≠ 32) → spl 32 (joinS l) = l
  | [], h, _ => absurd rfl h
  | [a], _, h => by rw [joinS, spl_one 32 a (h a (by simp))]
  | a :: b :: r, _, h => by
    rw [joinS, spl_cut 32 _ a (h a (by simp)), spl_joinS (b :: r) (by simp) (fun p hp => h p (by simp [hp]))]
theorem itoa_noblank (n : Int) : ∀ c ∈ Lib.itoa n, c ≠ 32 := fun c hc e => by
  subst e
  unfold Lib.itoa at hc
  split at hc
  · rcases List.mem_cons.1 hc with hc | hc
    · exact absurd hc (by decide)
    · exact absurd (List.all_eq_true.1 (dec_all _) _ hc) (by decide)
  · exact absurd (List.all_eq_true.1 (dec_all _) _ hc) (by decide)
theorem fnm_noblank (k : Int) : ∀ c ∈ fnm k, c ≠ 32 := fun c hc => by
  unfold fnm kname at hc
  split at hc
  · revert c; decide
  split at hc
  · revert c; decide
  split at hc
  · revert c; decide
  split at hc
  · revert c; decide
  split at hc
  · revert c; decide
  · revert c; decide
theorem letter_noblank {x : Int} (h : x ∈ faultLetters) : UInt8.ofNat x.toNat ≠ 32 ∧ (UInt8.ofNat x.toNat).toNat = x := by
  simp [faultLetters] at h
  rcases h with rfl | rfl | rfl | rfl | rfl | rfl | rfl | rfl | rfl <;> decide
theorem pieces_noblank {f : Flt} (h : FOk f) : ∀ p ∈ piecesF f, ∀ c ∈ p, c ≠ 32 := by
  intro p hp
  have hw := h.w
  unfold piecesF at hp
  rcases List.mem_append.1 hp with hp | hp
  · rcases List.mem_append.1 hp with hp | hp
    · simp only [List.mem_cons, List.not_mem_nil, or_false] at hp
      rcases hp with rfl | rfl
      · exact fnm_noblank _
      · exact itoa_noblank _
    · split at hp
      · simp only [List.mem_cons, List.not_mem_nil, or_false] at hp
        subst hp; exact itoa_noblank _
      · simp at hp
  · split at hp
    · rename_i h2
      simp only [List.mem_cons, List.not_mem_nil, or_false] at hp
      subst hp
      rw [h2] at hw
      intro c hc
      simp only [List.mem_cons, List.not_mem_nil, or_false] at hc
      subst hc
      exact (letter_noblank (by simpa [withsL] using hw)).1
    · split at hp
      · simp only [List.mem_cons, List.not_mem_nil, or_false] at hp
        subst hp; exact itoa_noblank _
      · simp at hp
theorem spl_text {f : Flt} (h : FOk f) : spl 32 (textF f) = piecesF f := spl_joinS _ (by simp [piecesF]) (pieces_noblank h)
/-- the kind of a name; 0: none -/
def kindI (n : List UInt8) : Int := if n = fnm 1 then 1 else if n = fnm 2 then 2 else if n = fnm 3 then 3 else if n = fnm 4 then 4 else if n = fnm 5 then 5 else if n = fnm 6 then 6 else 0
theorem kindI_fnm {k : Int} (h : 1 ≤ k ∧ k ≤ 6) : kindI (fnm k) = k := by
  rcases (show k = 1 ∨ k = 2 ∨ k = 3 ∨ k = 4 ∨ k = 5 ∨ k = 6 by omega) with rfl | rfl | rfl | rfl | rfl | rfl <;> decide
theorem kindI_le (n : List UInt8) : 0 ≤ kindI n ∧ kindI n ≤ 6 := by
  unfold kindI; repeat' split
  all_goals omega
theorem kindI_eq {n : List UInt8} (h : kindI n ≠ 0) : n = fnm (kindI n) := by
  unfold kindI at h ⊢
  repeat' split at h
  all_goals first | exact absurd rfl h | skip
  all_goals simp_all
def withP (k : Int) (last : List UInt8) : Int := if k = 2 then (match last with | [] => 0 | c :: _ => (c.toNat : Int)) else if k = 5 then (intW last (-1) 1).1 else 0
def candF (k : Int) (l : List (List UInt8)) : Flt := ⟨k, (intW (l.getD 1 []) 0 999).1, if klet k = true ∧ 2 < l.length then (intW (l.getD 2 []) 0 16).1 else 0, withP k (l.getD (l.length - 1) [])⟩
def parseF (L : List UInt8) : Flt × Int :=
  if kindI ((spl 32 L).getD 0 []) = 0 ∨ (spl 32 L).length < 2 then (⟨0, 0, 0, 0⟩, 6)
  else if shapedF (candF (kindI ((spl 32 L).getD 0 [])) (spl 32 L)) = true ∧ textF (candF (kindI ((spl 32 L).getD 0 [])) (spl 32 L)) = L then (candF (kindI ((spl 32 L).getD 0 [])) (spl 32 L), 0) else (⟨0, 0, 0, 0⟩, 6)
theorem intW_bd (s : List UInt8) {least most : Int} (h0 : least ≤ 0) (h1 : 0 ≤ most) : least ≤ (intW s least most).1 ∧ (intW s least most).1 ≤ most := by
  unfold intW
  split
  · exact ⟨h0, h1⟩
  split
  · exact ⟨h0, h1⟩
  split
  · exact ⟨h0, h1⟩
  · simp only; omega
theorem intW_itoa {n least most : Int} (h0 : least ≤ n) (h1 : n ≤ most) (h2 : -1000 ≤ n) (h3 : n ≤ 1000) : intW (Lib.itoa n) least most = (n, 0) := by
  obtain ⟨a, b⟩ := itoa_facts n
  unfold intW
  rw [if_neg (by omega), a, if_neg (by decide), b, if_neg (by omega)]
theorem cand_bd (k : Int) (l : List (List UInt8)) : 0 ≤ (candF k l).st ∧ (candF k l).st ≤ 999 ∧ 0 ≤ (candF k l).lt ∧ (candF k l).lt ≤ 16 := by
  have h1 := intW_bd (l.getD 1 []) (least := 0) (most := 999) (by omega) (by omega)
  have h2 := intW_bd (l.getD 2 []) (least := 0) (most := 16) (by omega) (by omega)
  unfold candF
  refine ⟨h1.1, h1.2, ?_, ?_⟩
  · show 0 ≤ (if klet k = true ∧ 2 < l.length then (intW (l.getD 2 []) 0 16).1 else 0)
    split
    · exact h2.1
    · omega
  · show (if klet k = true ∧ 2 < l.length then (intW (l.getD 2 []) 0 16).1 else 0) ≤ 16
    split
    · exact h2.2
    · omega
theorem parseF_ok {L : List UInt8} {f : Flt} (h : parseF L = (f, 0)) : FOk f ∧ textF f = L := by
  unfold parseF at h
  split at h
  · simp at h
  split at h
  · rename_i hs
    have hb := cand_bd (kindI ((spl 32 L).getD 0 [])) (spl 32 L)
    generalize candF (kindI ((spl 32 L).getD 0 [])) (spl 32 L) = g at h hs hb
    simp only [Prod.mk.injEq, and_true] at h
    subst h
    exact ⟨⟨hs.1, hb.1, hb.2.1, hb.2.2.1, hb.2.2.2⟩, hs.2⟩
  · simp at h
theorem parseF_or (L : List UInt8) : (∃ f, parseF L = (f, 0)) ∨ parseF L = (⟨0, 0, 0, 0⟩, 6) := by
  unfold parseF
  split
  · exact .inr rfl
  split
  · exact .inl ⟨_, rfl⟩
  · exact .inr rfl
theorem cand_text {f : Flt} (h : FOk f) : candF f.k (piecesF f) = f := by
  have hk := h.k
  have hw := h.w
  have e1 := intW_itoa (n := f.st) (least := 0) (most := 999) h.s0 h.s1 (by have := h.s0; omega) (by have := h.s1; omega)
  have e2 := intW_itoa (n := f.lt) (least := 0) (most := 16) h.l0 h.l1 (by have := h.l0; omega) (by have := h.l1; omega)
  have hl := h.l
  obtain ⟨k, st, lt, wi⟩ := f
  simp only at hk hw e1 e2 hl
  have hwd := withs_bd hw
  have e3 : k = 5 → intW (Lib.itoa wi) (-1) 1 = (wi, 0) := fun h5 => by
    subst h5
    have : wi = -1 ∨ wi = 1 := by simpa [withsL] using hw
    exact intW_itoa (by omega) (by omega) (by omega) (by omega)
  rcases (show k = 1 ∨ k = 2 ∨ k = 3 ∨ k = 4 ∨ k = 5 ∨ k = 6 by omega) with rfl | rfl | rfl | rfl | rfl | rfl
  · have : wi = 0 := by simpa [withsL] using hw
    subst this
    simp [candF, piecesF, klet, withP, e1, e2]
  · have := (letter_noblank (x := wi) (by simpa [withsL] using hw)).2
    simp [candF, piecesF, klet, withP, e1, e2]
    simpa using this
  · have : wi = 0 := by simpa [withsL] using hw
    subst this
    simp [candF, piecesF, klet, withP, e1, e2]
  · have : wi = 0 := by simpa [withsL] using hw
    subst this
    have := hl (by decide)
    subst this
    simp [candF, piecesF, klet, withP, e1]
  · have := hl (by decide)
    subst this
    simp [candF, piecesF, klet, withP, e1, e3 rfl]
  · have : wi = 0 := by simpa [withsL] using hw
    subst this
    have := hl (by decide)
    subst this
    simp [candF, piecesF, klet, withP, e1]
theorem parseF_hit {f : Flt} (h : FOk f) : parseF (textF f) = (f, 0) := by
  unfold parseF
  have h0 : (piecesF f).getD 0 [] = fnm f.k := by simp [piecesF]
  have h2 : ¬ (piecesF f).length < 2 := by simp [piecesF]
  rw [spl_text h, h0, kindI_fnm h.k, cand_text h, if_neg, if_pos ⟨h.sh, rfl⟩]
  rintro (h | h')
  · have := ‹FOk f›.k; omega
  · exact h2 h'
/-- what a text is read as -/
def PSpec (L : List UInt8) (r : Flt × Int) : Prop := (∃ f, FOk f ∧ textF f = L ∧ r = (f, 0)) ∨ (r = (⟨0, 0, 0, 0⟩, 6) ∧ ∀ f, FOk f → textF f ≠ L)
theorem pspec {L : List UInt8} {r : Flt × Int} (h : PSpec L r) : r = parseF L := by
  rcases h with ⟨f, hf, rfl, rfl⟩ | ⟨rfl, hn⟩
  · exact (parseF_hit hf).symm
  · rcases parseF_or L with ⟨f, hf⟩ | hf
    · obtain ⟨a, b⟩ := parseF_ok hf
      exact absurd b (hn f a)
    · exact hf.symm
def printF (f : Flt) : List UInt8 × Int := if shapedF f = false then ([], 2) else if f.st < 0 ∨ 999 < f.st ∨ f.lt < 0 ∨ 16 < f.lt then ([], 7) else (textF f, 0)
theorem printF_or (f : Flt) : printF f = (textF f, 0) ∧ FOk f ∨ (printF f).2 ≠ 0 := by
  unfold printF
  split
  · exact .inr (by decide)
  split
  · exact .inr (by decide)
  · rename_i h1 h2
    exact .inl ⟨rfl, ⟨by simpa using h1, by omega, by omega, by omega, by omega⟩⟩
/-- where the number stands -/
theorem text_st {f : Flt} : ∃ r, textF f = fnm f.k ++ 32 :: (Lib.itoa f.st ++ r) ∧ (r = [] ∨ ∃ r', r = 32 :: r') := by
  unfold textF piecesF
  rcases hr : (if klet f.k = true then [Lib.itoa f.lt] else []) ++ (if f.k = 2 then [[UInt8.ofNat f.wi.toNat]] else if f.k = 5 then [Lib.itoa f.wi] else []) with _ | ⟨a, r⟩
  · refine ⟨[], ?_, .inl rfl⟩
    rw [List.append_assoc, hr]; simp [joinS]
  · refine ⟨32 :: joinS (a :: r), ?_, .inr ⟨_, rfl⟩⟩
    rw [List.append_assoc, hr]; simp [joinS]
/-- how far the first blank is -/
def blK : List UInt8 → Nat
  | [] => 0
  | c :: r => if c = 32 then 0 else 1 + blK r
theorem blK_app (r : List UInt8) : ∀ a : List UInt8, (∀ c ∈ a, c ≠ 32) → blK (a ++ 32 :: r) = a.length
  | [], _ => by simp [blK]
  | c :: t, h => by rw [List.cons_append, blK, if_neg (h c (by simp)), blK_app r t (fun x hx => h x (by simp [hx])), List.length_cons]; omega
theorem blK_all : ∀ a : List UInt8, (∀ c ∈ a, c ≠ 32) → blK a = a.length
  | [], _ => rfl
  | c :: t, h => by rw [blK, if_neg (h c (by simp)), blK_all t (fun x hx => h x (by simp [hx])), List.length_cons]; omega
theorem blK_le : ∀ a : List UInt8, blK a ≤ a.length
  | [] => Nat.le_refl _
  | c :: t => by rw [blK, List.length_cons]; have := blK_le t; split <;> omega
end Go.Proofs.YtmfklcnocekdlaaGreatDoor

