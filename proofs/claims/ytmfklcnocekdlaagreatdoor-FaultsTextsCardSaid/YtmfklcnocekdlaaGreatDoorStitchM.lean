/- Words of stitches reduced: syllables, and the pairs of letters that undo each other. -/
import Derived.Test.YtmfklcnocekdlaaGreatDoorOldA5
namespace Tor

/-- a syllable: crosses in the middle, twists left and right; or a pin -/
structure Syl where
  m : Int
  l : Int
  r : Int
  pin : Bool
deriving DecidableEq

instance : Inhabited Syl := ⟨⟨0, 0, 0, false⟩⟩


/-- what a letter adds: left, middle, right -/
def twL (c : UInt8) : Int := if c = 76 ∨ c = 84 then -1 else if c = 108 ∨ c = 116 then 1 else 0
def twM (c : UInt8) : Int := if c = 99 then -1 else if c = 67 then 1 else 0
def twR (c : UInt8) : Int := if c = 82 ∨ c = 84 then -1 else if c = 114 ∨ c = 116 then 1 else 0

def pinHead : List Syl → Bool
  | [] => true
  | y :: _ => y.pin


/-- one letter, the syllables last first -/
def sylStep (st : List Syl) (c : UInt8) : List Syl :=
  if c = 80 then ⟨0, 0, 0, false⟩ :: ⟨0, 0, 0, true⟩ :: st
  else match st with
    | [] => []
    | x :: r =>
      if twM c = 0 then ⟨x.m, x.l + twL c, x.r + twR c, x.pin⟩ :: r
      else if x.l = 0 ∧ x.r = 0 then
        (if x.m + twM c = 0 ∧ pinHead r = false then r else ⟨x.m + twM c, x.l, x.r, x.pin⟩ :: r)
      else ⟨twM c, 0, 0, false⟩ :: x :: r

def sylOf (s : List UInt8) : List Syl := s.foldl sylStep [⟨0, 0, 0, false⟩]

def goodS : List Syl → Prop
  | [] => False
  | [x] => x.pin = false
  | x :: y :: r => x.pin = false ∧ (y.pin = true ∧ y = ⟨0, 0, 0, true⟩ ∧ goodS r ∨ y.pin = false ∧ x.m ≠ 0 ∧ ¬ (y.l = 0 ∧ y.r = 0) ∧ goodS (y :: r))

theorem goodS_pin {x : Syl} {r : List Syl} (h : goodS (x :: r)) : x.pin = false := by
  cases r with
  | nil => exact h
  | cons y r => exact h.1

theorem goodS_set {x : Syl} {r : List Syl} (h : goodS (x :: r)) (l' r' : Int) : goodS (⟨x.m, l', r', x.pin⟩ :: r) := by
  cases r with
  | nil => exact h
  | cons y r => exact h

theorem goodS_mid {x : Syl} {r : List Syl} (h : goodS (x :: r)) (m' : Int) (hm : m' ≠ 0 ∨ pinHead r = true) : goodS (⟨m', x.l, x.r, x.pin⟩ :: r) := by
  cases r with
  | nil => exact h
  | cons y r =>
    refine ⟨h.1, ?_⟩
    rcases h.2 with h2 | ⟨h2, h3, h4⟩
    · exact Or.inl h2
    · refine Or.inr ⟨h2, ?_, h4⟩
      rcases hm with hm | hm
      · exact hm
      · simp [pinHead, h2] at hm

theorem sylStep_good {st : List Syl} (h : goodS st) (c : UInt8) : goodS (sylStep st c) := by
  cases st with
  | nil => exact absurd h (by simp [goodS])
  | cons x r =>
    unfold sylStep
    split
    · exact ⟨rfl, Or.inl ⟨rfl, rfl, h⟩⟩
    · simp only
      split
      · exact goodS_set h _ _
      · rename_i hm
        split
        · split
          · rename_i h3
            cases r with
            | nil => exact absurd h3.2 (by simp [pinHead])
            | cons y r =>
              rcases h.2 with ⟨h4, _⟩ | ⟨_, _, _, h5⟩
              · have := h3.2; simp [pinHead, h4] at this
              · exact h5
          · rename_i h3
            apply goodS_mid h
            by_cases e1 : x.m + twM c = 0
            · refine Or.inr ?_
              cases e3 : pinHead r
              · exact absurd ⟨e1, e3⟩ h3
              · rfl
            · exact Or.inl e1
        · rename_i h2
          exact ⟨rfl, Or.inr ⟨goodS_pin h, hm, h2, h⟩⟩

theorem foldl_good : ∀ (s : List UInt8) {st : List Syl}, goodS st → goodS (s.foldl sylStep st)
  | [], _, h => h
  | c :: s, _, h => foldl_good s (sylStep_good h c)
theorem sylOf_good (s : List UInt8) : goodS (sylOf s) := foldl_good s rfl


/-- the letter that undoes -/
def undo (c : UInt8) : UInt8 := if c = 67 then 99 else if c = 99 then 67 else if c = 76 then 108 else if c = 108 then 76 else if c = 82 then 114 else if c = 114 then 82 else if c = 84 then 116 else if c = 116 then 84 else c
def repZ (c : UInt8) (n : Int) : List UInt8 := List.replicate n.toNat c
def bothT (l r : Int) : Int := if 0 < l * r then min (max l (-l)) (max r (-r)) else 0
def signT (l : Int) : Int := if l < 0 then -1 else 1

/-- the twists of a syllable -/
def twistW (l r : Int) : List UInt8 :=
  repZ 76 (-(l - signT l * bothT l r)) ++ repZ 82 (-(r - signT l * bothT l r)) ++ repZ 84 (-(signT l * bothT l r)) ++
    repZ 108 (l - signT l * bothT l r) ++ repZ 114 (r - signT l * bothT l r) ++ repZ 116 (signT l * bothT l r)
def Syl.mid (x : Syl) : List UInt8 := repZ 99 (-x.m) ++ repZ 67 x.m
def Syl.write (x : Syl) : List UInt8 := if x.pin = true then [80] else x.mid ++ twistW x.l x.r

/-- all syllables, last first -/
def writeAll (st : List Syl) : List UInt8 := (st.reverse).flatMap Syl.write

theorem writeAll_cons (x : Syl) (r : List Syl) : writeAll (x :: r) = writeAll r ++ x.write := by simp [writeAll]


theorem bothT_spec (l r : Int) : bothT l r = (if 0 < l ∧ 0 < r then min l r else if l < 0 ∧ r < 0 then min (-l) (-r) else 0) := by
  unfold bothT
  by_cases h1 : 0 < l <;> by_cases h2 : 0 < r
  · rw [if_pos (Int.mul_pos h1 h2), if_pos ⟨h1, h2⟩]; omega
  · have : ¬ 0 < l * r := by
      have := Int.mul_nonpos_of_nonneg_of_nonpos (Int.le_of_lt h1) (show r ≤ 0 by omega); omega
    rw [if_neg this, if_neg (by omega), if_neg (by omega)]
  · have : ¬ 0 < l * r := by
      have := Int.mul_nonpos_of_nonpos_of_nonneg (show l ≤ 0 by omega) (Int.le_of_lt h2); omega
    rw [if_neg this, if_neg (by omega), if_neg (by omega)]
  · by_cases h3 : l < 0 ∧ r < 0
    · rw [if_pos (Int.mul_pos_of_neg_of_neg h3.1 h3.2), if_neg (by omega), if_pos h3]; omega
    · have : l * r = 0 := by
        rcases (show l = 0 ∨ r = 0 by omega) with h | h
        · rw [h]; simp
        · rw [h]; simp
      rw [this, if_neg (by omega), if_neg (by omega), if_neg h3]

end Tor

