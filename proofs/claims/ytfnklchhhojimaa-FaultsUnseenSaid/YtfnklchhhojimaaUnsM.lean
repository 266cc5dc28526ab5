/- Plain: the crossings of works, and why they are the same braid if the works look alike. -/
import Derived.Test.YtfnklchhhojimaaFaultM
import Derived.Test.YtfnklchhhojimaaTrSwap
import Derived.Test.YtfnklchhhojimaaBrdM
set_option linter.unusedSimpArgs false
set_option linter.unusedVariables false
namespace Go.Proofs.Ytfnklchhhojimaa
open Go Go.RowKit Tor Brd

/-- the crossings of a letter of a word that lies behind B strands -/
def cwL (B : Int) (c : UInt8) : List Int :=
  if c = 67 then [B + 2] else if c = 76 then [-(B + 1)] else if c = 82 then [-(B + 3)] else if c = 84 then [-(B + 1), -(B + 3)]
  else if c = 99 then [-(B + 2)] else if c = 108 then [B + 1] else if c = 114 then [B + 3] else if c = 116 then [B + 1, B + 3] else []
def wdL (B : Int) (s : List UInt8) : List Int := s.flatMap (cwL B)
theorem wdL_app (B : Int) (s t : List UInt8) : wdL B (s ++ t) = wdL B s ++ wdL B t := by simp [wdL]
theorem wdL_cons (B : Int) (c : UInt8) (t : List UInt8) : wdL B (c :: t) = cwL B c ++ wdL B t := rfl
/-- a letter, so many times -/
def pwZ (i z : Int) : List Int := if 0 ≤ z then List.replicate z.toNat i else List.replicate (-z).toNat (-i)
theorem pwZ_zero (i : Int) : pwZ i 0 = [] := rfl
theorem pwZ_mem {i z x : Int} (h : x ∈ pwZ i z) : x = i ∨ x = -i := by
  unfold pwZ at h; split at h
  · exact .inl (List.eq_of_mem_replicate h)
  · exact .inr (List.eq_of_mem_replicate h)
theorem rep_snoc (k : Nat) (i : Int) : List.replicate k i ++ [i] = List.replicate (k + 1) i := by rw [List.replicate_succ']
theorem pwZ_up {n : Nat} {i : Int} (hi : InR n i) (z : Int) : BrEq n (pwZ i z ++ [i]) (pwZ i (z + 1)) := by
  unfold pwZ
  by_cases h : 0 ≤ z
  · rw [if_pos h, if_pos (by omega), rep_snoc, show (z + 1).toNat = z.toNat + 1 by omega]; exact .refl _
  · obtain ⟨k, hk⟩ : ∃ k, (-z).toNat = k + 1 := ⟨(-z).toNat - 1, by omega⟩
    have e : (if 0 ≤ z + 1 then List.replicate (z + 1).toNat i else List.replicate (-(z + 1)).toNat (-i)) = List.replicate k (-i) := by
      split
      · rw [show (z + 1).toNat = 0 by omega, show k = 0 by omega]; rfl
      · rw [show (-(z + 1)).toNat = k by omega]
    rw [if_neg h, hk, e, ← rep_snoc]
    have := BrEq.canc (n := n) (List.replicate k (-i)) [] (List.replicate k (-i)) (-i) hi.neg (by simpa using BrEq.refl _)
    simpa using this
theorem pwZ_dn {n : Nat} {i : Int} (hi : InR n i) (z : Int) : BrEq n (pwZ i z ++ [-i]) (pwZ i (z - 1)) := by
  unfold pwZ
  by_cases h : 0 < z
  · obtain ⟨k, hk⟩ : ∃ k, z.toNat = k + 1 := ⟨z.toNat - 1, by omega⟩
    rw [if_pos (by omega), if_pos (by omega), hk, show (z - 1).toNat = k by omega, ← rep_snoc]
    have := BrEq.canc (n := n) (List.replicate k i) [] (List.replicate k i) i hi (by simpa using BrEq.refl _)
    simpa using this
  · by_cases h0 : z = 0
    · subst h0; simpa using BrEq.refl _
    · rw [if_neg (by omega), if_neg (by omega), rep_snoc, show (-(z - 1)).toNat = (-z).toNat + 1 by omega]; exact .refl _
/-- the crossings of a syllable, of syllables (the last one first) -/
def syW (B : Int) (x : Syl) : List Int := if x.pin = true then [] else pwZ (B + 2) x.m ++ (pwZ (B + 1) x.l ++ pwZ (B + 3) x.r)
def stW (B : Int) : List Syl → List Int
  | [] => []
  | x :: r => stW B r ++ syW B x
/-- the base of a work, and how many strands -/
structure Bs (n : Nat) (B : Int) : Prop where
  lo : 0 ≤ B
  hi : B + 4 ≤ n
theorem Bs.r1 {n : Nat} {B : Int} (h : Bs n B) : InR n (B + 1) := by have := h.lo; have := h.hi; unfold InR; omega
theorem Bs.r2 {n : Nat} {B : Int} (h : Bs n B) : InR n (B + 2) := by have := h.lo; have := h.hi; unfold InR; omega
theorem Bs.r3 {n : Nat} {B : Int} (h : Bs n B) : InR n (B + 3) := by have := h.lo; have := h.hi; unfold InR; omega
/-- twists left and right, one more on the left -/
theorem tw_left {n : Nat} {B : Int} (h : Bs n B) (l r : Int) : BrEq n (pwZ (B + 1) l ++ pwZ (B + 3) r ++ [B + 1]) (pwZ (B + 1) (l + 1) ++ pwZ (B + 3) r) ∧ BrEq n (pwZ (B + 1) l ++ pwZ (B + 3) r ++ [-(B + 1)]) (pwZ (B + 1) (l - 1) ++ pwZ (B + 3) r) := by
  have lo := h.lo
  have hf : ∀ (e : Int), e = B + 1 ∨ e = -(B + 1) → BrEq n (pwZ (B + 3) r ++ [e]) ([e] ++ pwZ (B + 3) r) := fun e he => breq_comm (fun x hx y hy => by
    rcases pwZ_mem hx with rfl | rfl <;> rw [List.mem_singleton.1 hy] <;> unfold Far <;> rcases he with rfl | rfl <;> omega)
  constructor
  · have h1 := (hf _ (.inl rfl)).left (pwZ (B + 1) l)
    have h2 := (pwZ_up h.r1 l).right (pwZ (B + 3) r)
    rw [List.append_assoc]
    exact h1.trans (by rw [← List.append_assoc]; exact h2)
  · have h1 := (hf _ (.inr rfl)).left (pwZ (B + 1) l)
    have h2 := (pwZ_dn h.r1 l).right (pwZ (B + 3) r)
    rw [List.append_assoc]
    exact h1.trans (by rw [← List.append_assoc]; exact h2)
theorem tw_right {n : Nat} {B : Int} (h : Bs n B) (l r : Int) : BrEq n (pwZ (B + 1) l ++ pwZ (B + 3) r ++ [B + 3]) (pwZ (B + 1) l ++ pwZ (B + 3) (r + 1)) ∧ BrEq n (pwZ (B + 1) l ++ pwZ (B + 3) r ++ [-(B + 3)]) (pwZ (B + 1) l ++ pwZ (B + 3) (r - 1)) := by
  constructor
  · rw [List.append_assoc]; exact (pwZ_up h.r3 r).left _
  · rw [List.append_assoc]; exact (pwZ_dn h.r3 r).left _
theorem tw_step {n : Nat} {B : Int} (h : Bs n B) (c : UInt8) (hm : twM c = 0) (l r : Int) : BrEq n (pwZ (B + 1) l ++ pwZ (B + 3) r ++ cwL B c) (pwZ (B + 1) (l + twL c) ++ pwZ (B + 3) (r + twR c)) := by
  have n67 : c ≠ 67 := by rintro rfl; revert hm; decide
  have n99 : c ≠ 99 := by rintro rfl; revert hm; decide
  by_cases c1 : c = 76
  · subst c1; have := (tw_left h l r).2; simpa [cwL, twL, twR, Int.sub_eq_add_neg] using this
  by_cases c2 : c = 82
  · subst c2; have := (tw_right h l r).2; simpa [cwL, twL, twR, Int.sub_eq_add_neg] using this
  by_cases c3 : c = 84
  · subst c3
    have h1 := ((tw_left h l r).2).right [-(B + 3)]
    have h2 := (tw_right h (l - 1) r).2
    have := h1.trans h2
    simpa [cwL, twL, twR, Int.sub_eq_add_neg] using this
  by_cases c4 : c = 108
  · subst c4; have := (tw_left h l r).1; simpa [cwL, twL, twR] using this
  by_cases c5 : c = 114
  · subst c5; have := (tw_right h l r).1; simpa [cwL, twL, twR] using this
  by_cases c6 : c = 116
  · subst c6
    have h1 := ((tw_left h l r).1).right [B + 3]
    have h2 := (tw_right h (l + 1) r).1
    have := h1.trans h2
    simpa [cwL, twL, twR] using this
  have e1 : cwL B c = [] := by simp [cwL, n67, n99, c1, c2, c3, c4, c5, c6]
  have e2 : twL c = 0 := by simp [twL, c1, c3, c4, c6]
  have e3 : twR c = 0 := by simp [twR, c2, c3, c5, c6]
  rw [e1, e2, e3, Int.add_zero, Int.add_zero, List.append_nil]; exact .refl _
theorem mid_step {n : Nat} {B : Int} (h : Bs n B) (c : UInt8) (hm : twM c ≠ 0) (m : Int) : BrEq n (pwZ (B + 2) m ++ cwL B c) (pwZ (B + 2) (m + twM c)) := by
  have : c = 99 ∨ c = 67 := by
    unfold twM at hm
    split at hm
    · left; assumption
    · split at hm
      · right; assumption
      · exact absurd rfl hm
  rcases this with rfl | rfl
  · have := pwZ_dn h.r2 m; simpa [cwL, twM, Int.sub_eq_add_neg] using this
  · have := pwZ_up h.r2 m; simpa [cwL, twM] using this
theorem mid_new (B : Int) (c : UInt8) (hm : twM c ≠ 0) : cwL B c = pwZ (B + 2) (twM c) := by
  have : c = 99 ∨ c = 67 := by
    unfold twM at hm
    split at hm
    · left; assumption
    · split at hm
      · right; assumption
      · exact absurd rfl hm
  rcases this with rfl | rfl
  · simp [cwL, twM, pwZ]
  · simp [cwL, twM, pwZ]
theorem st_step {n : Nat} {B : Int} (h : Bs n B) {st : List Syl} (hg : goodS st) (c : UInt8) : BrEq n (stW B st ++ cwL B c) (stW B (sylStep st c)) := by
  cases st with
  | nil => exact absurd hg (by simp [goodS])
  | cons x r =>
    have hp := goodS_pin hg
    unfold sylStep
    split
    · rename_i hc; subst hc
      have e : cwL B 80 = [] := by simp [cwL]
      rw [e]
      show BrEq n _ (((stW B (x :: r)) ++ syW B ⟨0, 0, 0, true⟩) ++ syW B ⟨0, 0, 0, false⟩)
      have e1 : syW B ⟨0, 0, 0, true⟩ = [] := rfl
      have e2 : syW B ⟨0, 0, 0, false⟩ = [] := rfl
      rw [e1, e2]; simpa using BrEq.refl _
    · simp only
      split
      · rename_i hm
        show BrEq n (stW B r ++ syW B x ++ cwL B c) (stW B r ++ syW B ⟨x.m, x.l + twL c, x.r + twR c, x.pin⟩)
        rw [List.append_assoc]
        refine BrEq.left ?_ _
        unfold syW
        rw [hp]
        simp only [Bool.false_eq_true, if_false]
        rw [List.append_assoc]
        exact (tw_step h c hm x.l x.r).left _
      · rename_i hm
        split
        · rename_i h0
          have hs : syW B x = pwZ (B + 2) x.m := by unfold syW; rw [hp, h0.1, h0.2]; simp [pwZ_zero]
          show BrEq n (stW B r ++ syW B x ++ cwL B c) _
          rw [List.append_assoc, hs]
          have h1 := (mid_step h c hm x.m).left (stW B r)
          split
          · rename_i h2
            rw [h2.1, pwZ_zero, List.append_nil] at h1; exact h1
          · have e : stW B (⟨x.m + twM c, x.l, x.r, x.pin⟩ :: r) = stW B r ++ pwZ (B + 2) (x.m + twM c) := by
              show stW B r ++ syW B ⟨x.m + twM c, x.l, x.r, x.pin⟩ = _
              unfold syW; rw [hp, h0.1, h0.2]; simp [pwZ_zero]
            rw [e]; exact h1
        · have e : stW B (⟨twM c, 0, 0, false⟩ :: x :: r) = stW B (x :: r) ++ pwZ (B + 2) (twM c) := by
            show stW B (x :: r) ++ syW B ⟨twM c, 0, 0, false⟩ = _
            unfold syW; simp [pwZ_zero]
          rw [e, mid_new B c hm]; exact .refl _
theorem st_fold {n : Nat} {B : Int} (h : Bs n B) : ∀ (s : List UInt8) {st : List Syl}, goodS st → BrEq n (stW B st ++ wdL B s) (stW B (s.foldl sylStep st))
  | [], st, _ => by simpa [wdL] using BrEq.refl _
  | c :: s, st, hg => by
    rw [wdL_cons, ← List.append_assoc]
    exact ((st_step h hg c).right _).trans (st_fold h s (sylStep_good hg c))
theorem wd_syl {n : Nat} {B : Int} (h : Bs n B) (s : List UInt8) : BrEq n (wdL B s) (stW B (sylOf s)) := by
  have := st_fold h s (st := [⟨0, 0, 0, false⟩]) rfl
  have e : stW B [⟨0, 0, 0, false⟩] = [] := rfl
  rw [e, List.nil_append] at this
  exact this

/-- sums of twists -/
def sumL (f : UInt8 → Int) : List UInt8 → Int
  | [] => 0
  | c :: s => f c + sumL f s
theorem sumL_app (f : UInt8 → Int) (s t : List UInt8) : sumL f (s ++ t) = sumL f s + sumL f t := by
  induction s with
  | nil => simp [sumL]
  | cons c s ih => simp only [List.cons_append, sumL, ih]; omega
theorem sumL_rep (f : UInt8 → Int) (c : UInt8) (k : Nat) : sumL f (List.replicate k c) = (k : Int) * f c := by
  induction k with
  | zero => simp [sumL]
  | succ k ih => rw [List.replicate_succ]; simp only [sumL, ih]; rw [Int.natCast_succ, Int.add_mul]; omega
theorem tw_fold {n : Nat} {B : Int} (h : Bs n B) : ∀ (s : List UInt8) (l r : Int), (∀ c ∈ s, twM c = 0) → BrEq n (pwZ (B + 1) l ++ pwZ (B + 3) r ++ wdL B s) (pwZ (B + 1) (l + sumL twL s) ++ pwZ (B + 3) (r + sumL twR s))
  | [], l, r, _ => by simpa [wdL, sumL] using BrEq.refl _
  | c :: s, l, r, hs => by
    rw [wdL_cons, ← List.append_assoc]
    have h1 := (tw_step h c (hs c (List.mem_cons_self ..)) l r).right (wdL B s)
    have h2 := tw_fold h s (l + twL c) (r + twR c) (fun d hd => hs d (List.mem_cons_of_mem _ hd))
    have := h1.trans h2
    rw [Int.add_assoc, Int.add_assoc] at this
    exact this
theorem twist_sums (l r : Int) : sumL twL (twistW l r) = l ∧ sumL twR (twistW l r) = r := by
  have hb := bothT_spec l r
  unfold twistW repZ
  obtain ⟨b, hbe⟩ : ∃ b, bothT l r = b := ⟨_, rfl⟩
  rw [hbe] at hb
  have hs : signT l * bothT l r = (if l < 0 then -b else b) := by rw [hbe]; unfold signT; split <;> omega
  rw [hs]
  simp only [sumL_app, sumL_rep]
  have v1 : twL 76 = -1 := rfl
  have v2 : twL 82 = 0 := rfl
  have v3 : twL 84 = -1 := rfl
  have v4 : twL 108 = 1 := rfl
  have v5 : twL 114 = 0 := rfl
  have v6 : twL 116 = 1 := rfl
  have u1 : twR 76 = 0 := rfl
  have u2 : twR 82 = -1 := rfl
  have u3 : twR 84 = -1 := rfl
  have u4 : twR 108 = 0 := rfl
  have u5 : twR 114 = 1 := rfl
  have u6 : twR 116 = 1 := rfl
  rw [v1, v2, v3, v4, v5, v6, u1, u2, u3, u4, u5, u6]
  split at hb
  · split <;> omega
  · split at hb
    · split <;> omega
    · split <;> omega
theorem twist_mid (l r : Int) : ∀ c ∈ twistW l r, twM c = 0 ∧ c ≠ 80 := by
  intro c hc
  unfold twistW repZ at hc
  simp only [List.mem_append] at hc
  rcases hc with ((((h | h) | h) | h) | h) | h <;> rw [List.eq_of_mem_replicate h] <;> decide
theorem wd_rep (B : Int) (c : UInt8) (k : Nat) (y : Int) (h : cwL B c = [y]) : wdL B (List.replicate k c) = List.replicate k y := by
  induction k with
  | zero => rfl
  | succ k ih => rw [List.replicate_succ, List.replicate_succ, wdL_cons, ih, h]; rfl
theorem wd_write {n : Nat} {B : Int} (h : Bs n B) (x : Syl) : BrEq n (wdL B x.write) (syW B x) := by
  unfold Syl.write syW
  by_cases hp : x.pin = true
  · rw [if_pos hp, if_pos hp]; simpa [wdL, cwL] using BrEq.refl _
  · rw [if_neg hp, if_neg hp, wdL_app]
    refine BrEq.app ?_ ?_
    · unfold Syl.mid repZ
      rw [wdL_app, wd_rep B 99 _ (-(B + 2)) (by simp [cwL]), wd_rep B 67 _ (B + 2) (by simp [cwL])]
      unfold pwZ
      by_cases h0 : 0 ≤ x.m
      · rw [if_pos h0, show (-x.m).toNat = 0 by omega]; exact .refl _
      · rw [if_neg h0, show x.m.toNat = 0 by omega]; simpa using BrEq.refl _
    · have h1 := tw_fold h (twistW x.l x.r) 0 0 (fun c hc => (twist_mid _ _ c hc).1)
      rw [(twist_sums x.l x.r).1, (twist_sums x.l x.r).2, Int.zero_add, Int.zero_add, pwZ_zero, pwZ_zero] at h1
      simpa using h1
theorem wd_all {n : Nat} {B : Int} (h : Bs n B) : ∀ (st : List Syl), BrEq n (wdL B (writeAll st)) (stW B st)
  | [] => by simpa [writeAll, wdL, stW] using BrEq.refl _
  | x :: r => by
    rw [writeAll_cons, wdL_app]
    exact (wd_all h r).app (wd_write h x)
/-- a word and the word reduced have the same crossings, as braids -/
theorem wd_red {n : Nat} {B : Int} (h : Bs n B) (s : ByteArray) : BrEq n (wdL B s.data.toList) (wdL B (redW s).data.toList) := by
  have e : (redW s).data.toList = writeAll (sylOf s.data.toList) := by unfold redW; simp
  rw [e]
  exact (wd_syl h _).trans (wd_all h _).symm

/-! ### pins -/
def pinN (s : List UInt8) : Nat := s.count 80
def stP : List Syl → Nat
  | [] => 0
  | x :: r => stP r + (if x.pin = true then 1 else 0)
theorem stP_step {st : List Syl} (hg : goodS st) (c : UInt8) : stP (sylStep st c) = stP st + (if c = 80 then 1 else 0) := by
  cases st with
  | nil => exact absurd hg (by simp [goodS])
  | cons x r =>
    have hp := goodS_pin hg
    unfold sylStep
    split
    · simp [stP, hp]
    · simp only
      split
      · simp [stP, hp]
      · split
        · split
          · simp [stP, hp]
          · simp [stP, hp]
        · simp [stP, hp]
theorem stP_fold : ∀ (s : List UInt8) {st : List Syl}, goodS st → stP (s.foldl sylStep st) = stP st + pinN s
  | [], st, _ => by simp [pinN]
  | c :: s, st, hg => by
    rw [List.foldl_cons, stP_fold s (sylStep_good hg c), stP_step hg]
    unfold pinN
    rw [List.count_cons]
    by_cases hc : c = 80
    · subst hc; simp; omega
    · simp [hc]
theorem pin_none {s : List UInt8} (h : ∀ c ∈ s, c ≠ 80) : pinN s = 0 := by
  unfold pinN; exact List.count_eq_zero.2 fun hm => h _ hm rfl
theorem pin_write (x : Syl) : pinN x.write = if x.pin = true then 1 else 0 := by
  unfold Syl.write
  split
  · rfl
  · refine pin_none fun c hc => ?_
    rcases List.mem_append.1 hc with h | h
    · unfold Syl.mid repZ at h
      rcases List.mem_append.1 h with h | h <;> rw [List.eq_of_mem_replicate h] <;> decide
    · exact (twist_mid _ _ c h).2
theorem pin_all : ∀ (st : List Syl), pinN (writeAll st) = stP st
  | [] => rfl
  | x :: r => by
    rw [writeAll_cons]
    have := pin_all r
    have h2 := pin_write x
    unfold pinN at *
    rw [List.count_append, this, h2]; rfl
theorem pin_red (s : ByteArray) : pinN (redW s).data.toList = pinN s.data.toList := by
  have e : (redW s).data.toList = writeAll (sylOf s.data.toList) := by unfold redW; simp
  rw [e, pin_all]
  unfold sylOf
  have := stP_fold s.data.toList (st := [⟨0, 0, 0, false⟩]) rfl
  rw [this]
  simp [stP]

/-! ### works -/
/-- the crossings of a work, of works -/
def crW (x : Tri) : List Int := wdL (2 * x.b) x.s.data.toList
def crsL (l : List Tri) : List Int := l.flatMap crW
/-- pins and sewings -/
def pnW (x : Tri) : Nat := (if x.a = 2 then 1 else 0) + pinN x.s.data.toList
def pnsL : List Tri → Nat
  | [] => 0
  | x :: l => pnW x + pnsL l
theorem crsL_app (l m : List Tri) : crsL (l ++ m) = crsL l ++ crsL m := by simp [crsL]
theorem pnsL_app (l m : List Tri) : pnsL (l ++ m) = pnsL l + pnsL m := by
  induction l with
  | nil => simp [pnsL]
  | cons x l ih => simp only [List.cons_append, pnsL, ih]; omega
/-- works that fit p pairs -/
def InW (p : Nat) (l : List Tri) : Prop := ∀ x ∈ l, 0 ≤ x.b ∧ x.b + 2 ≤ p
theorem InW.bs {p : Nat} {l : List Tri} (h : InW p l) {x : Tri} (hx : x ∈ l) : Bs (2 * p) (2 * x.b) := by
  have := h x hx; exact ⟨by omega, by omega⟩
theorem plainL_cons' (x : Tri) (l : List Tri) : plainL (x :: l) = (if (redW x.s).size ≠ 0 ∨ x.a = 2 then [⟨x.a, x.b, redW x.s⟩] else []) ++ plainL l := by
  unfold plainL
  rw [List.map_cons, List.filter_cons]
  by_cases h : (redW x.s).size ≠ 0 ∨ x.a = 2
  · rw [if_pos h, if_pos (by simpa using h)]; rfl
  · rw [if_neg h, if_neg (by simpa using h)]; rfl
theorem inW_plain {p : Nat} : ∀ {l : List Tri}, InW p l → InW p (plainL l) := by
  intro l h x hx
  unfold plainL at hx
  obtain ⟨y, hy, rfl⟩ := List.mem_map.1 (List.mem_filter.1 hx).1
  exact h y hy
theorem plain_cr {p : Nat} : ∀ {l : List Tri}, InW p l → BrEq (2 * p) (crsL l) (crsL (plainL l)) ∧ pnsL (plainL l) = pnsL l
  | [], _ => ⟨.refl _, rfl⟩
  | x :: l, h => by
    have hb : Bs (2 * p) (2 * x.b) := h.bs (List.mem_cons_self ..)
    obtain ⟨h1, h2⟩ := plain_cr (l := l) (fun y hy => h y (List.mem_cons_of_mem _ hy))
    rw [plainL_cons', crsL_app, pnsL_app]
    have h3 := wd_red hb x.s
    have h4 := pin_red x.s
    split
    · refine ⟨?_, ?_⟩
      · show BrEq (2 * p) (crW x ++ crsL l) _
        refine BrEq.app ?_ h1
        show BrEq (2 * p) (crW x) (crW ⟨x.a, x.b, redW x.s⟩ ++ [])
        rw [List.append_nil]; exact h3
      · show pnW ⟨x.a, x.b, redW x.s⟩ + 0 + pnsL (plainL l) = pnW x + pnsL l
        rw [h2]; unfold pnW; rw [h4]; rfl
    · rename_i hn
      have hz : (redW x.s).data.toList = [] := by
        have hs : (redW x.s).size = 0 := by omega
        have := bsize (redW x.s)
        exact List.eq_nil_of_length_eq_zero (by omega)
      rw [hz] at h3 h4
      refine ⟨?_, ?_⟩
      · show BrEq (2 * p) (crW x ++ crsL l) ([] ++ crsL (plainL l))
        exact BrEq.app h3 h1
      · show 0 + pnsL (plainL l) = pnW x + pnsL l
        unfold pnW
        rw [if_neg (by omega), ← h4, h2]; rfl
theorem cw_mem {B : Int} {c : UInt8} {y : Int} (hB : 0 ≤ B) (h : y ∈ cwL B c) : B + 1 ≤ y.natAbs ∧ y.natAbs ≤ B + 3 := by
  unfold cwL at h
  repeat' split at h
  all_goals simp only [List.mem_cons, List.not_mem_nil, or_false] at h
  all_goals omega
theorem cr_mem {x : Tri} {y : Int} (hb : 0 ≤ x.b) (h : y ∈ crW x) : 2 * x.b + 1 ≤ y.natAbs ∧ y.natAbs ≤ 2 * x.b + 3 := by
  unfold crW wdL at h
  obtain ⟨c, _, hy⟩ := List.mem_flatMap.1 h
  exact cw_mem (by omega) hy
theorem cr_far {x y : Tri} (hx : 0 ≤ x.b) (hy : 0 ≤ y.b) (h : touchB x.b y.b = false) : ∀ a ∈ crW x, ∀ b ∈ crW y, Far a b := by
  intro a ha b hb
  have h1 := cr_mem hx ha; have h2 := cr_mem hy hb
  have h3 : ¬ (x.b - y.b ≤ 1 ∧ y.b - x.b ≤ 1) := by
    intro hh; unfold touchB at h; simp at h; omega
  unfold Far; omega
theorem crs_far {x : Tri} : ∀ {P : List Tri}, 0 ≤ x.b → (∀ y ∈ P, 0 ≤ y.b) → (∀ y ∈ P, touchB y.b x.b = false) → ∀ a ∈ crsL P, ∀ b ∈ crW x, Far a b := by
  intro P hx hP h a ha b hb
  obtain ⟨y, hy, ha'⟩ := List.mem_flatMap.1 ha
  exact cr_far (hP y hy) hx (h y hy) a ha' b hb
/-- the works that are left -/
def leftW (l : List Tri) (M : List Nat) : List Nat := (List.range l.length).filter fun i => !M.contains i
theorem left_split {l : List Tri} {M : List Nat} {i : Nat} (hi : i < l.length) (hM : i ∉ M) : ∃ P Q, leftW l M = P ++ i :: Q ∧ leftW l (M ++ [i]) = P ++ Q ∧ ∀ k ∈ P, k < i ∧ k ∉ M := by
  have hr : List.range l.length = List.range i ++ i :: (List.range' (i + 1) (l.length - i - 1)) := by
    have h1 : List.range l.length = List.range (i + (l.length - i - 1 + 1)) := by congr 1; omega
    rw [h1, List.range_eq_range', ← List.range'_append_1, List.range'_succ, List.range_eq_range']
    simp
  refine ⟨(List.range i).filter (fun k => !M.contains k), (List.range' (i + 1) (l.length - i - 1)).filter (fun k => !M.contains k), ?_, ?_, ?_⟩
  · unfold leftW
    rw [hr, List.filter_append, List.filter_cons, if_pos (by simpa using hM)]
  · unfold leftW
    rw [hr, List.filter_append, List.filter_cons, if_neg (by simp)]
    congr 1
    · refine List.filter_congr fun k hk => ?_
      have : k ≠ i := by have := List.mem_range.1 hk; omega
      simp [this]
    · refine List.filter_congr fun k hk => ?_
      have : k ≠ i := by have := List.mem_range'_1.1 hk; omega
      simp [this]
  · intro k hk
    have h1 := List.mem_filter.1 hk
    exact ⟨List.mem_range.1 h1.1, by simpa using h1.2⟩
theorem lin_cr {n : Nat} {l : List Tri} (hb : ∀ x ∈ l, 0 ≤ x.b) : ∀ (R M : List Nat), LinExt l M R → (leftW l M).length = R.length → BrEq n (crsL ((leftW l M).map (xAt l))) (crsL (R.map (xAt l))) ∧ pnsL ((leftW l M).map (xAt l)) = pnsL (R.map (xAt l))
  | [], M, _, hl => by
    have : leftW l M = [] := List.eq_nil_of_length_eq_zero hl
    rw [this]; exact ⟨.refl _, rfl⟩
  | i :: R, M, h, hl => by
    obtain ⟨hi, hr, ht⟩ := h
    have hr2 := hr
    unfold rdyB at hr2
    simp only [Bool.and_eq_true, List.all_eq_true] at hr2
    have hM : i ∉ M := by simpa using hr2.2
    obtain ⟨P, Q, e1, e2, hP⟩ := left_split hi hM
    have hxi : 0 ≤ (xAt l i).b := by rw [xAt_of hi]; exact hb _ (List.getElem_mem hi)
    have hPb : ∀ k ∈ P, touchB (xAt l k).b (xAt l i).b = false := by
      intro k hk
      obtain ⟨k1, k2⟩ := hP k hk
      have := hr2.1 k (List.mem_range.2 k1)
      have hc : M.contains k = false := by simpa using k2
      rw [hc, Bool.false_or] at this
      unfold touchAt at this
      simpa using this
    have hl2 : (leftW l (M ++ [i])).length = R.length := by
      rw [e2, List.length_append]
      rw [e1, List.length_append, List.length_cons] at hl
      rw [List.length_cons] at hl; omega
    obtain ⟨k1, k2⟩ := lin_cr (n := n) hb R (M ++ [i]) ht hl2
    rw [e2] at k1 k2
    rw [e1]
    simp only [List.map_append, List.map_cons, crsL_app, pnsL_app] at k1 k2 ⊢
    refine ⟨?_, ?_⟩
    · show BrEq n (crsL (P.map (xAt l)) ++ (crW (xAt l i) ++ crsL (Q.map (xAt l)))) (crW (xAt l i) ++ crsL (R.map (xAt l)))
      have h1 : BrEq n (crsL (P.map (xAt l)) ++ crW (xAt l i)) (crW (xAt l i) ++ crsL (P.map (xAt l))) := by
        refine breq_comm (crs_far hxi ?_ ?_)
        · intro y hy
          obtain ⟨k, hk, rfl⟩ := List.mem_map.1 hy
          have := (hP k hk).1
          rw [xAt_of (by omega)]; exact hb _ (List.getElem_mem _)
        · intro y hy
          obtain ⟨k, hk, rfl⟩ := List.mem_map.1 hy
          exact hPb k hk
      have h2 := h1.right (crsL (Q.map (xAt l)))
      have h3 := k1.left (crW (xAt l i))
      have := h2.trans (by rw [List.append_assoc]; exact h3)
      simpa using this
    · show pnsL (P.map (xAt l)) + (pnW (xAt l i) + pnsL (Q.map (xAt l))) = pnW (xAt l i) + pnsL (R.map (xAt l))
      omega
theorem tr_cr {n : Nat} {l m : List Tri} (hb : ∀ x ∈ l, 0 ≤ x.b) (h : TrEq l m) : BrEq n (crsL l) (crsL m) ∧ pnsL l = pnsL m := by
  obtain ⟨A, h1, h2, rfl⟩ := h
  have e : leftW l [] = List.range l.length := by unfold leftW; simp
  have := lin_cr (n := n) hb A [] h1 (by rw [e, List.length_range, h2])
  rw [e, show (List.range l.length).map (xAt l) = l from map_id'] at this
  exact this
/-- works that look alike have the same crossings, as braids, and as many pins and sewings -/
theorem alike_cr {p : Nat} {l m : List Tri} (hl : InW p l) (hm : InW p m) (h : TrEq (plainL l) (plainL m)) : BrEq (2 * p) (crsL l) (crsL m) ∧ pnsL l = pnsL m := by
  obtain ⟨a1, a2⟩ := plain_cr hl
  obtain ⟨b1, b2⟩ := plain_cr hm
  obtain ⟨c1, c2⟩ := tr_cr (n := 2 * p) (fun x hx => (inW_plain hl x hx).1) h
  exact ⟨(a1.trans c1).trans b1.symm, by omega⟩
/-- the crossings are letters of the braid -/
theorem crs_in {p : Nat} {l : List Tri} (hl : InW p l) : ∀ y ∈ crsL l, InR (2 * p) y := by
  intro y hy
  obtain ⟨x, hx, hy'⟩ := List.mem_flatMap.1 hy
  have h1 := hl x hx
  have h2 := cr_mem h1.1 hy'
  unfold InR; omega
end Go.Proofs.Ytfnklchhhojimaa
