/- Words of stitches reduced: syllables, and the pairs of letters that undo each other. -/
import Derived.Test.YtfnklchhhojimaaOldB
namespace Tor

/-- a syllable: crosses in the middle, twists left and right; or a pin -/
structure Syl where
  m : Int
  l : Int
  r : Int
  pin : Bool
deriving DecidableEq

instance : Inhabited Syl := ⟨⟨0, 0, 0, false⟩⟩


/-- what a letter adds: left, middle, right -/
def twL (c : UInt8) : Int := if c = 76 ∨ c = 84 then -1 else if c = 108 ∨ c = 116 then 1 else 0
def twM (c : UInt8) : Int := if c = 99 then -1 else if c = 67 then 1 else 0
def twR (c : UInt8) : Int := if c = 82 ∨ c = 84 then -1 else if c = 114 ∨ c = 116 then 1 else 0

def pinHead : List Syl → Bool
  | [] => true
  | y :: _ => y.pin


/-- one letter, the syllables last first -/
def sylStep (st : List Syl) (c : UInt8) : List Syl :=
  if c = 80 then ⟨0, 0, 0, false⟩ :: ⟨0, 0, 0, true⟩ :: st
  else match st with
    | [] => []
    | x :: r =>
      if twM c = 0 then ⟨x.m, x.l + twL c, x.r + twR c, x.pin⟩ :: r
      else if x.l = 0 ∧ x.r = 0 then
        (if x.m + twM c = 0 ∧ pinHead r = false then r else ⟨x.m + twM c, x.l, x.r, x.pin⟩ :: r)
      else ⟨twM c, 0, 0, false⟩ :: x :: r

def sylOf (s : List UInt8) : List Syl := s.foldl sylStep [⟨0, 0, 0, false⟩]

def goodS : List Syl → Prop
  | [] => False
  | [x] => x.pin = false
  | x :: y :: r => x.pin = false ∧ (y.pin = true ∧ y = ⟨0, 0, 0, true⟩ ∧ goodS r ∨ y.pin = false ∧ x.m ≠ 0 ∧ ¬ (y.l = 0 ∧ y.r = 0) ∧ goodS (y :: r))

theorem goodS_pin {x : Syl} {r : List Syl} (h : goodS (x :: r)) : x.pin = false := by
  cases r with
  | nil => exact h
  | cons y r => exact h.1

theorem goodS_set {x : Syl} {r : List Syl} (h : goodS (x :: r)) (l' r' : Int) : goodS (⟨x.m, l', r', x.pin⟩ :: r) := by
  cases r with
  | nil => exact h
  | cons y r => exact h

theorem goodS_mid {x : Syl} {r : List Syl} (h : goodS (x :: r)) (m' : Int) (hm : m' ≠ 0 ∨ pinHead r = true) : goodS (⟨m', x.l, x.r, x.pin⟩ :: r) := by
  cases r with
  | nil => exact h
  | cons y r =>
    refine ⟨h.1, ?_⟩
    rcases h.2 with h2 | ⟨h2, h3, h4⟩
    · exact Or.inl h2
    · refine Or.inr ⟨h2, ?_, h4⟩
      rcases hm with hm | hm
      · exact hm
      · simp [pinHead, h2] at hm

theorem sylStep_good {st : List Syl} (h : goodS st) (c : UInt8) : goodS (sylStep st c) := by
  cases st with
  | nil => exact absurd h (by simp [goodS])
  | cons x r =>
    unfold sylStep
    split
    · exact ⟨rfl, Or.inl ⟨rfl, rfl, h⟩⟩
    · simp only
      split
      · exact goodS_set h _ _
      · rename_i hm
        split
        · split
          · rename_i h3
            cases r with
            | nil => exact absurd h3.2 (by simp [pinHead])
            | cons y r =>
              rcases h.2 with ⟨h4, _⟩ | ⟨_, _, _, h5⟩
              · have := h3.2; simp [pinHead, h4] at this
              · exact h5
          · rename_i h3
            apply goodS_mid h
            by_cases e1 : x.m + twM c = 0
            · refine Or.inr ?_
              cases e3 : pinHead r
              · exact absurd ⟨e1, e3⟩ h3
              · rfl
            · exact Or.inl e1
        · rename_i h2
          exact ⟨rfl, Or.inr ⟨goodS_pin h, hm, h2, h⟩⟩

theorem foldl_good : ∀ (s : List UInt8) {st : List Syl}, goodS st → goodS (s.foldl sylStep st)
  | [], _, h => h
  | c :: s, _, h => foldl_good s (sylStep_good h c)
theorem sylOf_good (s : List UInt8) : goodS (sylOf s) := foldl_good s rfl


/-- long words: crosses, pins, single twists -/
def longL (s : List UInt8) : List UInt8 := s.flatMap fun c => if c = 84 then [76, 82] else if c = 116 then [108, 114] else [c]

theorem step_T {st : List Syl} (h : goodS st) : sylStep st 84 = sylStep (sylStep st 76) 82 := by
  cases st with
  | nil => exact absurd h (by simp [goodS])
  | cons x r => simp [sylStep, twL, twM, twR]
theorem step_t {st : List Syl} (h : goodS st) : sylStep st 116 = sylStep (sylStep st 108) 114 := by
  cases st with
  | nil => exact absurd h (by simp [goodS])
  | cons x r => simp [sylStep, twL, twM, twR]

theorem foldl_long : ∀ (s : List UInt8) {st : List Syl}, goodS st → (longL s).foldl sylStep st = s.foldl sylStep st
  | [], _, _ => rfl
  | c :: s, st, h => by
    have ih := foldl_long s (sylStep_good h c)
    unfold longL at ih ⊢
    rw [List.flatMap_cons, List.foldl_append, List.foldl_cons, ← ih]
    congr 1
    by_cases h1 : c = 84
    · subst h1; simp [step_T h]
    · by_cases h2 : c = 116
      · subst h2; simp [step_t h]
      · simp [h1, h2]


/-- the letters of long words -/
def isLong (c : UInt8) : Bool := decide (c ∈ [(67 : UInt8), 76, 82, 80, 99, 108, 114])

/-- the letter that undoes -/
def undo (c : UInt8) : UInt8 := if c = 67 then 99 else if c = 99 then 67 else if c = 76 then 108 else if c = 108 then 76 else if c = 82 then 114 else if c = 114 then 82 else if c = 84 then 116 else if c = 116 then 84 else c
def leftB (c : UInt8) : Bool := decide (c = 76 ∨ c = 108)
def rightB (c : UInt8) : Bool := decide (c = 82 ∨ c = 114)
def apartB (a b : UInt8) : Bool := leftB a && rightB b || rightB a && leftB b


/-- two letters that can be taken out -/
def FreeP (s : List UInt8) (i k : Nat) : Prop :=
  ∃ (hi : i < s.length) (hk : k < s.length), i < k ∧ s[i] ≠ 80 ∧ s[k] = undo s[i] ∧ ∀ (m : Nat) (hm : m < s.length), i < m → m < k → apartB s[m] s[i] = true

theorem isLong_cases {c : UInt8} (h : isLong c = true) : c = 67 ∨ c = 76 ∨ c = 82 ∨ c = 80 ∨ c = 99 ∨ c = 108 ∨ c = 114 := by
  simpa [isLong] using h

theorem step_cancel_C {st : List Syl} (h : goodS st) (c d : UInt8) (hc : c = 67 ∧ d = 99 ∨ c = 99 ∧ d = 67) : sylStep (sylStep st c) d = st := by
  cases st with
  | nil => exact absurd h (by simp [goodS])
  | cons x r =>
    have hp := goodS_pin h
    obtain ⟨m, l, rr, pin⟩ := x
    simp only at hp
    subst hp
    have key : ∀ (e : Int) (he : e ≠ 0) (c d : UInt8) (h1 : c ≠ 80) (h2 : d ≠ 80) (h3 : twM c = e) (h4 : twM d = -e), sylStep (sylStep (⟨m, l, rr, false⟩ :: r) c) d = ⟨m, l, rr, false⟩ :: r := by
      intro e he c d h1 h2 h3 h4
      by_cases h0 : l = 0 ∧ rr = 0
      · obtain ⟨rfl, rfl⟩ := h0
        by_cases h5 : m + e = 0 ∧ pinHead r = false
        · have s1 : sylStep (⟨m, 0, 0, false⟩ :: r) c = r := by simp [sylStep, h1, h3, he, h5]
          rw [s1]
          obtain ⟨h6, h8⟩ := h5
          cases r with
          | nil => exact absurd h8 (by simp [pinHead])
          | cons y r =>
            rcases h.2 with ⟨h9, _⟩ | ⟨_, _, h10, _⟩
            · simp [pinHead, h9] at h8
            · have : m = -e := by omega
              subst this
              simp only [sylStep, h2, if_false, h4]
              rw [if_neg (by omega), if_neg h10]
        · have s1 : sylStep (⟨m, 0, 0, false⟩ :: r) c = ⟨m + e, 0, 0, false⟩ :: r := by
            simp only [sylStep, h1, if_false, h3, he, and_self, if_true]
            rw [if_neg h5]
          rw [s1]
          simp only [sylStep, h2, if_false, h4]
          rw [if_neg (by omega), if_pos (by simp), if_neg]
          · have : m + e + -e = m := by omega
            rw [this]
          · rintro ⟨h6, h8⟩
            cases r with
            | nil => exact absurd h8 (by simp [pinHead])
            | cons y r =>
              rcases h.2 with ⟨h9, _⟩ | ⟨_, h10, _⟩
              · simp [pinHead, h9] at h8
              · simp only at h10; omega
      · have s1 : sylStep (⟨m, l, rr, false⟩ :: r) c = ⟨e, 0, 0, false⟩ :: ⟨m, l, rr, false⟩ :: r := by
          simp only [sylStep, h1, if_false, h3, he]
          rw [if_neg h0]
        rw [s1]
        simp only [sylStep, h2, if_false, h4]
        rw [if_neg (by omega), if_pos (by simp), if_pos ⟨by omega, rfl⟩]
    rcases hc with ⟨rfl, rfl⟩ | ⟨rfl, rfl⟩
    · exact key 1 (by decide) _ _ (by decide) (by decide) (by decide) (by decide)
    · exact key (-1) (by decide) _ _ (by decide) (by decide) (by decide) (by decide)

theorem step_twist {x : Syl} {r : List Syl} (c : UInt8) (h1 : c ≠ 80) (h2 : twM c = 0) : sylStep (x :: r) c = ⟨x.m, x.l + twL c, x.r + twR c, x.pin⟩ :: r := by
  simp [sylStep, h1, h2]

theorem fold_twists : ∀ (s : List UInt8) (x : Syl) (r : List Syl), (∀ c ∈ s, c ≠ 80 ∧ twM c = 0) → s.foldl sylStep (x :: r) = ⟨x.m, x.l + (s.map twL).sum, x.r + (s.map twR).sum, x.pin⟩ :: r
  | [], x, r, _ => by simp
  | c :: s, x, r, h => by
    have hc := h c (by simp)
    rw [List.foldl_cons, step_twist c hc.1 hc.2, fold_twists s _ _ (fun d hd => h d (by simp [hd]))]
    simp [Int.add_assoc]

theorem apart_twist {a b : UInt8} (h : apartB a b = true) : (a ≠ 80 ∧ twM a = 0) ∧ (b ≠ 80 ∧ twM b = 0) := by
  simp only [apartB, leftB, rightB, Bool.or_eq_true, Bool.and_eq_true, decide_eq_true_eq] at h
  rcases h with ⟨rfl | rfl, rfl | rfl⟩ | ⟨rfl | rfl, rfl | rfl⟩ <;> decide

theorem undo_twist {b : UInt8} (h : b ≠ 80 ∧ twM b = 0) : undo b ≠ 80 ∧ twM (undo b) = 0 ∧ twL (undo b) = - twL b ∧ twR (undo b) = - twR b := by
  by_cases e1 : b = 76
  · subst e1; decide
  by_cases e2 : b = 108
  · subst e2; decide
  by_cases e3 : b = 82
  · subst e3; decide
  by_cases e4 : b = 114
  · subst e4; decide
  by_cases e5 : b = 84
  · subst e5; decide
  by_cases e6 : b = 116
  · subst e6; decide
  have e7 : b ≠ 67 := by rintro rfl; exact absurd h.2 (by decide)
  have e8 : b ≠ 99 := by rintro rfl; exact absurd h.2 (by decide)
  have : undo b = b := by simp [undo, *]
  rw [this]
  simp [twL, twR, twM, *]


/-- taking out a free pair changes nothing -/
theorem fold_free {st : List Syl} (h : goodS st) (a : UInt8) (mid : List UInt8) (ha : isLong a = true) (hP : a ≠ 80) (hm : ∀ c ∈ mid, apartB c a = true) :
    (a :: (mid ++ [undo a])).foldl sylStep st = mid.foldl sylStep st := by
  by_cases hmid : mid = []
  · subst hmid
    by_cases hx : twM a = 0
    · cases st with
      | nil => exact absurd h (by simp [goodS])
      | cons x r =>
        have hu := undo_twist ⟨hP, hx⟩
        simp only [List.nil_append, List.foldl_cons, List.foldl_nil]
        rw [step_twist a hP hx, step_twist _ hu.1 hu.2.1]
        obtain ⟨m, l, rr, pin⟩ := x
        simp only [hu.2.2.1, hu.2.2.2]
        congr 2 <;> omega
    · simp only [List.nil_append, List.foldl_cons, List.foldl_nil]
      apply step_cancel_C h
      rcases isLong_cases ha with rfl | rfl | rfl | rfl | rfl | rfl | rfl
      all_goals first | (left; exact ⟨rfl, rfl⟩) | (right; exact ⟨rfl, rfl⟩) | exact absurd rfl hx | exact absurd rfl hP
  · obtain ⟨c0, hc0⟩ := List.exists_mem_of_ne_nil mid hmid
    have ha2 := (apart_twist (hm c0 hc0)).2
    have hu := undo_twist ha2
    cases st with
    | nil => exact absurd h (by simp [goodS])
    | cons x r =>
      rw [fold_twists mid x r (fun c hc => (apart_twist (hm c hc)).1)]
      rw [fold_twists (a :: (mid ++ [undo a])) x r]
      · simp only [List.map_cons, List.map_append, List.map_nil, List.sum_cons, List.sum_append, List.sum_nil, hu.2.2.1, hu.2.2.2]
        congr 2 <;> omega
      · intro c hc
        simp only [List.mem_cons, List.mem_append, List.not_mem_nil, or_false] at hc
        rcases hc with rfl | hc | rfl
        · exact ha2
        · exact (apart_twist (hm c hc)).1
        · exact ⟨hu.1, hu.2.1⟩


/-- the word without two letters -/
def without2 (s : List UInt8) (i k : Nat) : List UInt8 := s.take i ++ ((s.take k).drop (i + 1)) ++ s.drop (k + 1)

theorem split2 (s : List UInt8) (i k : Nat) (hi : i < s.length) (hk : k < s.length) (hik : i < k) : s = s.take i ++ (s[i] :: ((s.take k).drop (i + 1) ++ [s[k]])) ++ s.drop (k + 1) := by
  have h1 : s = s.take k ++ s[k] :: s.drop (k + 1) := by
    rw [← List.drop_eq_getElem_cons hk]; exact (List.take_append_drop k s).symm
  have h2 : s.take k = s.take i ++ s[i] :: (s.take k).drop (i + 1) := by
    have h3 : i < (s.take k).length := by rw [List.length_take]; omega
    have h4 := (List.take_append_drop i (s.take k)).symm
    rw [List.drop_eq_getElem_cons h3] at h4
    rw [List.take_take, Nat.min_eq_left (by omega)] at h4
    simpa using h4
  conv => lhs; rw [h1, h2]
  simp

theorem sylOf_free {s : List UInt8} {i k : Nat} (hs : ∀ c ∈ s, isLong c = true) (h : FreeP s i k) : sylOf (without2 s i k) = sylOf s := by
  obtain ⟨hi, hk, hik, hP, hu, hm⟩ := h
  have e := split2 s i k hi hk hik
  unfold sylOf
  conv => rhs; rw [e]
  rw [without2, List.foldl_append, List.foldl_append, List.foldl_append, List.foldl_append]
  congr 1
  rw [hu]
  symm
  apply fold_free (foldl_good (s.take i) (st := [⟨0, 0, 0, false⟩]) rfl) _ _ (hs _ (List.getElem_mem hi)) hP
  intro c hc
  obtain ⟨n, hn, rfl⟩ := List.getElem_of_mem hc
  rw [List.length_drop, List.length_take] at hn
  rw [List.getElem_drop, List.getElem_take]
  exact hm _ (by omega) (by omega) (by omega)

theorem without2_mem {s : List UInt8} {i k : Nat} {c : UInt8} (h : c ∈ without2 s i k) : c ∈ s := by
  simp only [without2, List.mem_append] at h
  rcases h with (h | h) | h
  · exact List.mem_of_mem_take h
  · exact List.mem_of_mem_take (List.mem_of_mem_drop h)
  · exact List.mem_of_mem_drop h

theorem without2_len {s : List UInt8} {i k : Nat} (hk : k < s.length) (hik : i < k) : (without2 s i k).length + 2 = s.length := by
  simp only [without2, List.length_append, List.length_take, List.length_drop]
  omega

/-! ### what is written -/
def repZ (c : UInt8) (n : Int) : List UInt8 := List.replicate n.toNat c
def bothT (l r : Int) : Int := if 0 < l * r then min (max l (-l)) (max r (-r)) else 0
def signT (l : Int) : Int := if l < 0 then -1 else 1

/-- the twists of a syllable -/
def twistW (l r : Int) : List UInt8 :=
  repZ 76 (-(l - signT l * bothT l r)) ++ repZ 82 (-(r - signT l * bothT l r)) ++ repZ 84 (-(signT l * bothT l r)) ++
    repZ 108 (l - signT l * bothT l r) ++ repZ 114 (r - signT l * bothT l r) ++ repZ 116 (signT l * bothT l r)
def Syl.mid (x : Syl) : List UInt8 := repZ 99 (-x.m) ++ repZ 67 x.m
def Syl.write (x : Syl) : List UInt8 := if x.pin = true then [80] else x.mid ++ twistW x.l x.r

/-- all syllables, last first -/
def writeAll (st : List Syl) : List UInt8 := (st.reverse).flatMap Syl.write

theorem writeAll_cons (x : Syl) (r : List Syl) : writeAll (x :: r) = writeAll r ++ x.write := by simp [writeAll]


/-- the letters of a stretch without crosses, in order -/
def orderedL (s : List UInt8) : List UInt8 :=
  let up := min (s.count 76) (s.count 82)
  let down := min (s.count 108) (s.count 114)
  List.replicate (s.count 76 - up) 76 ++ List.replicate (s.count 82 - up) 82 ++ List.replicate up 84 ++
    List.replicate (s.count 108 - down) 108 ++ List.replicate (s.count 114 - down) 114 ++ List.replicate down 116

theorem pos_mul {a b : Int} (ha : 0 < a) (hb : 0 < b) : 0 < a * b := Int.mul_pos ha hb

theorem bothT_spec (l r : Int) : bothT l r = (if 0 < l ∧ 0 < r then min l r else if l < 0 ∧ r < 0 then min (-l) (-r) else 0) := by
  unfold bothT
  by_cases h1 : 0 < l <;> by_cases h2 : 0 < r
  · rw [if_pos (Int.mul_pos h1 h2), if_pos ⟨h1, h2⟩]; omega
  · have : ¬ 0 < l * r := by
      have := Int.mul_nonpos_of_nonneg_of_nonpos (Int.le_of_lt h1) (show r ≤ 0 by omega); omega
    rw [if_neg this, if_neg (by omega), if_neg (by omega)]
  · have : ¬ 0 < l * r := by
      have := Int.mul_nonpos_of_nonpos_of_nonneg (show l ≤ 0 by omega) (Int.le_of_lt h2); omega
    rw [if_neg this, if_neg (by omega), if_neg (by omega)]
  · by_cases h3 : l < 0 ∧ r < 0
    · rw [if_pos (Int.mul_pos_of_neg_of_neg h3.1 h3.2), if_neg (by omega), if_pos h3]; omega
    · have : l * r = 0 := by
        rcases (show l = 0 ∨ r = 0 by omega) with h | h
        · rw [h]; simp
        · rw [h]; simp
      rw [this, if_neg (by omega), if_neg (by omega), if_neg h3]

theorem ordered_twist (s : List UInt8) (hl : s.count 76 = 0 ∨ s.count 108 = 0) (hr : s.count 82 = 0 ∨ s.count 114 = 0) :
    twistW ((s.count 108 : Int) - s.count 76) ((s.count 114 : Int) - s.count 82) = orderedL s := by
  unfold twistW orderedL repZ signT
  rw [bothT_spec]
  generalize s.count 76 = a at *
  generalize s.count 82 = b at *
  generalize s.count 108 = c at *
  generalize s.count 114 = d at *
  simp only
  congr 1
  · congr 1
    · congr 1
      · congr 1
        · congr 1
          · congr 1
            rcases hl with rfl | rfl <;> rcases hr with rfl | rfl <;> (repeat' split) <;> omega
          · congr 1
            rcases hl with rfl | rfl <;> rcases hr with rfl | rfl <;> (repeat' split) <;> omega
        · congr 1
          rcases hl with rfl | rfl <;> rcases hr with rfl | rfl <;> (repeat' split) <;> omega
      · congr 1
        rcases hl with rfl | rfl <;> rcases hr with rfl | rfl <;> (repeat' split) <;> omega
    · congr 1
      rcases hl with rfl | rfl <;> rcases hr with rfl | rfl <;> (repeat' split) <;> omega
  · congr 1
    rcases hl with rfl | rfl <;> rcases hr with rfl | rfl <;> (repeat' split) <;> omega


/-- the reference's last pass: what is out, and the stretch that is not out yet -/
def passStep (x : List UInt8 × List UInt8) (c : UInt8) : List UInt8 × List UInt8 :=
  if c = 67 ∨ c = 99 ∨ c = 80 then (x.1 ++ orderedL x.2 ++ [c], []) else (x.1, x.2 ++ [c])
def passL (s : List UInt8) : List UInt8 × List UInt8 := s.foldl passStep ([], [])
def refReduced (s : List UInt8) : List UInt8 := (passL s).1 ++ orderedL (passL s).2


/-- what holds of the letters up to a place -/
structure PassI (s : List UInt8) (st : List Syl) (out stretch : List UInt8) (x : Syl) (r : List Syl) : Prop where
  st_eq : st = x :: r
  good : goodS st
  hl : x.l = (stretch.count 108 : Int) - stretch.count 76
  hr : x.r = (stretch.count 114 : Int) - stretch.count 82
  ho : out = writeAll r ++ x.mid
  nl : stretch.count 76 = 0 ∨ stretch.count 108 = 0
  nr : stretch.count 82 = 0 ∨ stretch.count 114 = 0
  tl : ∀ c ∈ stretch, leftB c = true ∨ rightB c = true
  suf : ∃ p, s = p ++ stretch
  last : stretch = [] → (0 < x.m → ∃ p, s = p ++ [67]) ∧ (x.m < 0 → ∃ p, s = p ++ [99])

theorem twist_pos {l : List UInt8} (ht : ∀ c ∈ l, leftB c = true ∨ rightB c = true) (hne : l ≠ []) : 0 < l.count 76 + l.count 108 + l.count 82 + l.count 114 := by
  obtain ⟨c, hc⟩ := List.exists_mem_of_ne_nil l hne
  have h1 : 0 < l.count c := List.count_pos_iff.2 hc
  have := ht c hc
  simp only [leftB, rightB, decide_eq_true_eq] at this
  rcases this with (rfl | rfl) | (rfl | rfl) <;> omega


/-- the last letter of a kind in a stretch -/
theorem last_of (P : UInt8 → Bool) : ∀ (l : List UInt8), (∃ c ∈ l, P c = true) → ∃ a y b, l = a ++ y :: b ∧ P y = true ∧ ∀ c ∈ b, P c = false
  | [], h => by obtain ⟨c, hc, _⟩ := h; cases hc
  | x :: l, h => by
    by_cases h1 : ∃ c ∈ l, P c = true
    · obtain ⟨a, y, b, h2, h3, h4⟩ := last_of P l h1
      exact ⟨x :: a, y, b, by rw [h2]; rfl, h3, h4⟩
    · have h1 : ∀ c ∈ l, P c = false := fun c hc => by
        cases e : P c
        · rfl
        · exact absurd ⟨c, hc, e⟩ h1
      obtain ⟨c, hc, h2⟩ := h
      simp only [List.mem_cons] at hc
      rcases hc with rfl | hc
      · exact ⟨[], c, l, rfl, h2, h1⟩
      · simp [h1 c hc] at h2


/-- no twist that is undone by a twist of the stretch before it -/
theorem no_undo {s p stretch : List UInt8} {a : UInt8} (hirr : ∀ i k, ¬ FreeP (s ++ [a]) i k) (hs : s = p ++ stretch) (ht : ∀ c ∈ stretch, leftB c = true ∨ rightB c = true)
    (side other : UInt8 → Bool) (hside : ∀ c, leftB c = true ∨ rightB c = true → side c = false → other c = true)
    (hapart : ∀ b c, other c = true → side b = true → apartB c b = true) (hun : ∀ y, side y = true → y ≠ undo a → y = a) (hP : undo a ≠ 80) (huu : undo (undo a) = a) (hsa : side (undo a) = true) (hna : a ≠ undo a)
    (hnb : stretch.count a = 0 ∨ stretch.count (undo a) = 0) : stretch.count (undo a) = 0 := by
  rcases hnb with hnb | hnb
  · rcases Nat.eq_zero_or_pos (stretch.count (undo a)) with h | h
    · exact h
    · exfalso
      have hmem := List.count_pos_iff.1 h
      obtain ⟨A, y, B, h1, h2, h3⟩ := last_of side stretch ⟨_, hmem, hsa⟩
      have hy : y = undo a := by
        by_cases e : y = undo a
        · exact e
        · have := hun y h2 e
          subst this
          have : y ∈ stretch := by rw [h1]; simp
          have := List.count_pos_iff.2 this
          omega
      subst hy
      refine hirr (p.length + A.length) (s.length) ⟨by simp [hs, h1], by simp, by simp [hs, h1], ?_, ?_, ?_⟩
      · simp [hs, h1, hP]
      · simp [hs, h1, huu]
      · intro m hm h4 h5
        have e1 : (s ++ [a])[p.length + A.length]'(by simp [hs, h1]) = undo a := by simp [hs, h1]
        rw [e1]
        have e2 : (s ++ [a])[m] ∈ B := by
          have h6 : (s ++ [a]) = (p ++ A ++ [undo a]) ++ (B ++ [a]) := by simp [hs, h1]
          have h7 : m < ((p ++ A ++ [undo a]) ++ (B ++ [a])).length := by rw [← h6]; exact hm
          have h8 : (s ++ [a])[m] = ((p ++ A ++ [undo a]) ++ (B ++ [a]))[m] := by congr 1
          rw [h8, List.getElem_append_right (by simp; omega), List.getElem_append_left (by simp [hs, h1] at h5 ⊢; omega)]
          exact List.getElem_mem _
        have e3 : (s ++ [a])[m] ∈ stretch := by rw [h1]; simp [e2]
        exact hapart _ _ (hside _ (ht _ e3) (h3 _ e2)) hsa
  · exact hnb


theorem snoc_ind {α : Type} {P : List α → Prop} (h0 : P []) (h1 : ∀ s a, P s → P (s ++ [a])) (s : List α) : P s := by
  have key : ∀ (n : Nat) (s : List α), s.length = n → P s := by
    intro n
    induction n with
    | zero => intro s hs; rw [List.eq_nil_of_length_eq_zero hs]; exact h0
    | succ n ih =>
      intro s hs
      have hne : s ≠ [] := by intro e; subst e; simp at hs
      rw [← List.dropLast_concat_getLast hne]
      exact h1 _ _ (ih _ (by rw [List.length_dropLast, hs]; rfl))
  exact key _ s rfl

theorem free_left {s : List UInt8} {a : UInt8} (h : ∀ i k, ¬ FreeP (s ++ [a]) i k) : ∀ i k, ¬ FreeP s i k := by
  rintro i k ⟨hi, hk, hik, hP, hu, hm⟩
  refine h i k ⟨by simp; omega, by simp; omega, hik, ?_, ?_, ?_⟩
  · rw [List.getElem_append_left hi]; exact hP
  · rw [List.getElem_append_left hi, List.getElem_append_left hk]; exact hu
  · intro m hm1 h1 h2
    rw [List.getElem_append_left hi, List.getElem_append_left (show m < s.length by omega)]
    exact hm m (by omega) h1 h2

theorem free_last {p : List UInt8} {a b : UInt8} (h : ∀ i k, ¬ FreeP (p ++ [b] ++ [a]) i k) (hP : b ≠ 80) (hu : a = undo b) : False := by
  refine h p.length (p.length + 1) ⟨by simp, by simp, by omega, by simpa using hP, by simpa using hu, ?_⟩
  intro m hm h1 h2
  omega

theorem passL_snoc (s : List UInt8) (a : UInt8) : passL (s ++ [a]) = passStep (passL s) a := by simp [passL]
theorem sylOf_snoc (s : List UInt8) (a : UInt8) : sylOf (s ++ [a]) = sylStep (sylOf s) a := by simp [sylOf]

theorem und76 (y : UInt8) (h1 : leftB y = true) (h2 : y ≠ undo 76) : y = 76 := by
  rcases of_decide_eq_true h1 with h | h
  · exact h
  · exact absurd (h.trans (by decide : (108 : UInt8) = undo 76)) h2
theorem und108 (y : UInt8) (h1 : leftB y = true) (h2 : y ≠ undo 108) : y = 108 := by
  rcases of_decide_eq_true h1 with h | h
  · exact absurd (h.trans (by decide : (76 : UInt8) = undo 108)) h2
  · exact h
theorem und82 (y : UInt8) (h1 : rightB y = true) (h2 : y ≠ undo 82) : y = 82 := by
  rcases of_decide_eq_true h1 with h | h
  · exact h
  · exact absurd (h.trans (by decide : (114 : UInt8) = undo 82)) h2
theorem und114 (y : UInt8) (h1 : rightB y = true) (h2 : y ≠ undo 114) : y = 114 := by
  rcases of_decide_eq_true h1 with h | h
  · exact absurd (h.trans (by decide : (82 : UInt8) = undo 114)) h2
  · exact h

theorem pass_ok (s : List UInt8) : (∀ c ∈ s, isLong c = true) → (∀ i k, ¬ FreeP s i k) → ∃ x r, PassI s (sylOf s) (passL s).1 (passL s).2 x r := by
  refine snoc_ind (P := fun s => (∀ c ∈ s, isLong c = true) → (∀ i k, ¬ FreeP s i k) → ∃ x r, PassI s (sylOf s) (passL s).1 (passL s).2 x r) ?_ ?_ s
  · intro _ _
    exact ⟨⟨0, 0, 0, false⟩, [], ⟨rfl, rfl, rfl, rfl, rfl, Or.inl rfl, Or.inl rfl, by simp [passL], ⟨[], rfl⟩, fun _ => ⟨fun h => by simp at h, fun h => by simp at h⟩⟩⟩
  · intro s a ih hlong hirr
    obtain ⟨x, r, hI⟩ := ih (fun c hc => hlong c (by simp [hc])) (free_left hirr)
    have ha := hlong a (by simp)
    have hg := sylOf_good (s ++ [a])
    rw [sylOf_snoc, passL_snoc]
    rw [sylOf_snoc] at hg
    have hst := hI.st_eq
    have hxp := goodS_pin (hst ▸ hI.good)
    have hord := ordered_twist (passL s).2 hI.nl hI.nr
    rw [← hI.hl, ← hI.hr] at hord
    have hw : writeAll (x :: r) = (passL s).1 ++ orderedL (passL s).2 := by
      rw [writeAll_cons, hI.ho, ← hord]
      simp [Syl.write, hxp]
    obtain ⟨p, hp⟩ := hI.suf
    -- crosses
    have cross : ∀ (m : Int) (c : UInt8) (hc : c = 67 ∧ m = 1 ∨ c = 99 ∧ m = -1) (_ : a = c), ∃ y q, PassI (s ++ [c]) (sylStep (sylOf s) c) (passStep (passL s) c).1 (passStep (passL s) c).2 y q := by
      rintro m c hc rfl
      have h80 : a ≠ 80 := by rcases hc with ⟨rfl, _⟩ | ⟨rfl, _⟩ <;> decide
      have htm : twM a = m := by rcases hc with ⟨rfl, rfl⟩ | ⟨rfl, rfl⟩ <;> rfl
      have hm0 : m ≠ 0 := by rcases hc with ⟨_, rfl⟩ | ⟨_, rfl⟩ <;> decide
      have hps : passStep (passL s) a = ((passL s).1 ++ orderedL (passL s).2 ++ [a], []) := by
        unfold passStep; rw [if_pos (by rcases hc with ⟨rfl, _⟩ | ⟨rfl, _⟩ <;> decide)]
      rw [hps]
      by_cases hnil : (passL s).2 = []
      · have hl0 : x.l = 0 := by rw [hI.hl, hnil]; rfl
        have hr0 : x.r = 0 := by rw [hI.hr, hnil]; rfl
        have hnn : 0 ≤ x.m * m := by
          rcases hc with ⟨rfl, rfl⟩ | ⟨rfl, rfl⟩
          · rcases Int.lt_or_le x.m 0 with h | h
            · obtain ⟨q, hq⟩ := (hI.last hnil).2 h
              exact absurd (free_last (by rw [← hq]; exact hirr) (by decide) (by decide)) id
            · omega
          · rcases Int.lt_or_le 0 x.m with h | h
            · obtain ⟨q, hq⟩ := (hI.last hnil).1 h
              exact absurd (free_last (by rw [← hq]; exact hirr) (by decide) (by decide)) id
            · omega
        have hne : x.m + m ≠ 0 := by rcases hc with ⟨_, rfl⟩ | ⟨_, rfl⟩ <;> omega
        have hstep : sylStep (sylOf s) a = ⟨x.m + m, 0, 0, false⟩ :: r := by
          rw [hst]
          obtain ⟨xm, xl, xr, xp⟩ := x
          simp only at hl0 hr0 hxp hne
          subst hl0 hr0 hxp
          simp only [sylStep, if_neg h80, htm]
          rw [if_neg hm0, if_pos (by simp), if_neg (by omega)]
        refine ⟨⟨x.m + m, 0, 0, false⟩, r, ⟨hstep, hg, rfl, rfl, ?_, Or.inl rfl, Or.inl rfl, by simp, ⟨s ++ [a], by simp⟩, fun _ => ⟨?_, ?_⟩⟩⟩
        · rw [hI.ho, hnil, List.append_assoc, List.append_assoc]
          congr 1
          simp only [Syl.mid, repZ, orderedL]
          rcases hc with ⟨rfl, rfl⟩ | ⟨rfl, rfl⟩
          · rw [show (-x.m).toNat = 0 by omega, show (-(x.m + 1)).toNat = 0 by omega, show (x.m + 1).toNat = x.m.toNat + 1 by omega, List.replicate_succ']
            simp
          · rw [show (x.m).toNat = 0 by omega, show (x.m + -1).toNat = 0 by omega, show (-(x.m + -1)).toNat = (-x.m).toNat + 1 by omega, List.replicate_succ']
            simp
        · intro h
          rcases hc with ⟨rfl, rfl⟩ | ⟨rfl, rfl⟩
          · exact ⟨s, rfl⟩
          · simp only at h; omega
        · intro h
          rcases hc with ⟨rfl, rfl⟩ | ⟨rfl, rfl⟩
          · simp only at h; omega
          · exact ⟨s, rfl⟩
      · have hlr : ¬ (x.l = 0 ∧ x.r = 0) := by
          have := twist_pos hI.tl hnil
          have h1 := hI.nl
          have h2 := hI.nr
          rw [hI.hl, hI.hr]
          omega
        have hstep : sylStep (sylOf s) a = ⟨m, 0, 0, false⟩ :: x :: r := by
          rw [hst]
          simp only [sylStep, if_neg h80, htm]
          rw [if_neg hm0, if_neg hlr]
        refine ⟨⟨m, 0, 0, false⟩, x :: r, ⟨hstep, hg, rfl, rfl, ?_, Or.inl rfl, Or.inl rfl, by simp, ⟨s ++ [a], by simp⟩, fun _ => ⟨?_, ?_⟩⟩⟩
        · rw [hw]
          simp only [Syl.mid, repZ]
          rcases hc with ⟨rfl, rfl⟩ | ⟨rfl, rfl⟩ <;> rfl
        · intro h
          rcases hc with ⟨rfl, rfl⟩ | ⟨rfl, rfl⟩
          · exact ⟨s, rfl⟩
          · simp only at h; omega
        · intro h
          rcases hc with ⟨rfl, rfl⟩ | ⟨rfl, rfl⟩
          · simp only at h; omega
          · exact ⟨s, rfl⟩
    -- twists
    have twist : ∀ (ht : leftB a = true ∨ rightB a = true), ∃ y q, PassI (s ++ [a]) (sylStep (sylOf s) a) (passStep (passL s) a).1 (passStep (passL s) a).2 y q := by
      intro ht
      have hcase : a = 76 ∨ a = 108 ∨ a = 82 ∨ a = 114 := by
        simp only [leftB, rightB, decide_eq_true_eq] at ht
        rcases ht with (h | h) | (h | h) <;> simp [h]
      have h80 : a ≠ 80 := by rcases hcase with rfl | rfl | rfl | rfl <;> decide
      have htm : twM a = 0 := by rcases hcase with rfl | rfl | rfl | rfl <;> rfl
      have hps : passStep (passL s) a = ((passL s).1, (passL s).2 ++ [a]) := by
        unfold passStep; rw [if_neg (by rcases hcase with rfl | rfl | rfl | rfl <;> decide)]
      have hstep : sylStep (sylOf s) a = ⟨x.m, x.l + twL a, x.r + twR a, x.pin⟩ :: r := by rw [hst, step_twist a h80 htm]
      rw [hps]
      have hL : ∀ (side other : UInt8 → Bool), (∀ c, leftB c = true ∨ rightB c = true → side c = false → other c = true) → (∀ b c, other c = true → side b = true → apartB c b = true) → (∀ y, side y = true → y ≠ undo a → y = a) → side (undo a) = true →
          ((passL s).2.count a = 0 ∨ (passL s).2.count (undo a) = 0) → (passL s).2.count (undo a) = 0 := fun side other h1 h2 h3 h4 h5 =>
        no_undo hirr hp hI.tl side other h1 h2 h3 (by rcases hcase with rfl | rfl | rfl | rfl <;> decide) (by rcases hcase with rfl | rfl | rfl | rfl <;> decide) h4 (by rcases hcase with rfl | rfl | rfl | rfl <;> decide) h5
      have lr : ∀ c : UInt8, leftB c = true ∨ rightB c = true → leftB c = false → rightB c = true := fun c h1 h2 => by rcases h1 with h1 | h1; (· rw [h1] at h2; cases h2); exact h1
      have rl : ∀ c : UInt8, leftB c = true ∨ rightB c = true → rightB c = false → leftB c = true := fun c h1 h2 => by rcases h1 with h1 | h1; exact h1; (· rw [h1] at h2; cases h2)
      have ap1 : ∀ b c : UInt8, rightB c = true → leftB b = true → apartB c b = true := fun b c h1 h2 => by simp [apartB, h1, h2]
      have ap2 : ∀ b c : UInt8, leftB c = true → rightB b = true → apartB c b = true := fun b c h1 h2 => by simp [apartB, h1, h2]
      have hnl := hI.nl
      have hnr := hI.nr
      refine ⟨⟨x.m, x.l + twL a, x.r + twR a, x.pin⟩, r, ⟨hstep, hg, ?_, ?_, hI.ho, ?_, ?_, ?_, ⟨p, by rw [← List.append_assoc, ← hp]⟩, fun h => by simp at h⟩⟩
      · simp only [List.count_append, hI.hl]
        rcases hcase with rfl | rfl | rfl | rfl <;> simp [twL]
        all_goals omega
      · simp only [List.count_append, hI.hr]
        rcases hcase with rfl | rfl | rfl | rfl <;> simp [twR]
        all_goals omega
      · simp only [List.count_append]
        rcases hcase with rfl | rfl | rfl | rfl
        · right
          have := hL leftB rightB lr ap1 (und76) (by decide) hnl
          simpa [undo] using this
        · left
          have := hL leftB rightB lr ap1 (und108) (by decide) (by simpa [undo] using hnl.symm)
          simpa [undo] using this
        · simpa using hnl
        · simpa using hnl
      · simp only [List.count_append]
        rcases hcase with rfl | rfl | rfl | rfl
        · simpa using hnr
        · simpa using hnr
        · right
          have := hL rightB leftB rl ap2 (und82) (by decide) hnr
          simpa [undo] using this
        · left
          have := hL rightB leftB rl ap2 (und114) (by decide) (by simpa [undo] using hnr.symm)
          simpa [undo] using this
      · intro c hc
        simp only [List.mem_append, List.mem_singleton] at hc
        rcases hc with hc | rfl
        · exact hI.tl c hc
        · exact ht
    rcases isLong_cases ha with h | h | h | h | h | h | h
    · have := cross 1 67 (Or.inl ⟨rfl, rfl⟩) h; rwa [h]
    · exact twist (by rw [h]; decide)
    · exact twist (by rw [h]; decide)
    · subst h
      refine ⟨⟨0, 0, 0, false⟩, ⟨0, 0, 0, true⟩ :: x :: r, ⟨by rw [hst]; simp [sylStep], hg, rfl, rfl, ?_, Or.inl rfl, Or.inl rfl, by simp [passStep], ⟨s ++ [80], by simp [passStep]⟩, fun _ => ⟨fun h => by simp at h, fun h => by simp at h⟩⟩⟩
      rw [writeAll_cons, hw]
      simp [passStep, Syl.write, Syl.mid, repZ]
    · have := cross (-1) 99 (Or.inr ⟨rfl, rfl⟩) h; rwa [h]
    · exact twist (by rw [h]; decide)
    · exact twist (by rw [h]; decide)


/-- an irreducible long word is written as its syllables are -/
theorem reduced_eq (s : List UInt8) (hs : ∀ c ∈ s, isLong c = true) (hirr : ∀ i k, ¬ FreeP s i k) : refReduced s = writeAll (sylOf s) := by
  obtain ⟨x, r, hI⟩ := pass_ok s hs hirr
  have hord := ordered_twist (passL s).2 hI.nl hI.nr
  rw [← hI.hl, ← hI.hr] at hord
  have hxp := goodS_pin (hI.st_eq ▸ hI.good)
  rw [hI.st_eq, writeAll_cons, refReduced, hI.ho, ← hord]
  simp [Syl.write, hxp]
end Tor
