/- Plain facts: bytes looked for in a list; what is wrong with a word, with a sheet. -/
import Derived.Lib.Bytealg
import Derived.Test.YtogkgoabonbkkaaDoorBase
namespace Tor
open Go

theorem idx_none : ∀ (l : List UInt8) (c : UInt8), (∀ j, j < l.length → l[j]? ≠ some c) → Lib.indexByte l c = -1
  | [], _, _ => rfl
  | b :: l, c, h => by
    have h0 : b ≠ c := by have := h 0 (by simp); simpa using this
    have ih := idx_none l c (fun j hj => by have := h (j + 1) (by simp; omega); simpa using this)
    unfold Lib.indexByte
    simp [h0, ih]

theorem idx_at : ∀ (l : List UInt8) (c : UInt8) (k : Nat), (∀ j, j < k → l[j]? ≠ some c) → l[k]? = some c → Lib.indexByte l c = k
  | [], _, _, _, h => by simp at h
  | b :: l, c, 0, _, h => by
    simp only [List.getElem?_cons_zero, Option.some.injEq] at h
    unfold Lib.indexByte
    simp [h]
  | b :: l, c, k + 1, hn, h => by
    have h0 : b ≠ c := by have := hn 0 (by omega); simpa using this
    have ih := idx_at l c k (fun j hj => by have := hn (j + 1) (by omega); simpa using this) (by simpa using h)
    unfold Lib.indexByte
    have : ¬ (k : Int) = -1 := by omega
    simp [h0, ih, this]

theorem idx_neg (l : List UInt8) (c : UInt8) : Lib.indexByte l c < 0 ↔ c ∉ l := by
  induction l with
  | nil => simp [Lib.indexByte]
  | cons b l ih =>
    unfold Lib.indexByte
    by_cases hb : b = c
    · subst hb; simp
    · have hge := Lib.indexByte_ge l c
      have hb' : ¬ c = b := fun e => hb e.symm
      simp only [beq_iff_eq, hb, if_false, List.mem_cons, hb', false_or]
      rw [← ih]
      by_cases h1 : Lib.indexByte l c = -1
      · simp [h1]
      · simp only [h1, if_false]
        constructor
        · intro h; omega
        · intro h; omega


/-- the letters of moves -/
def letters : ByteArray := ⟨#[67, 84, 76, 82, 80, 99, 116, 108, 114]⟩
def lettersL : List UInt8 := [67, 84, 76, 82, 80, 99, 116, 108, 114]
theorem letters_data : letters.data.toList = lettersL := rfl
def isLetter (c : UInt8) : Bool := decide (c ∈ lettersL)


/-- what is wrong with a word -/
def wordE (s : ByteArray) : Int := if 16 < s.size then 3 else if s.data.toList.all isLetter then 0 else 6

theorem bsize (s : ByteArray) : s.data.toList.length = s.size := by rw [Array.length_toList]; rfl

theorem bget (s : ByteArray) (k : Nat) (h : k < s.size) : s.data.toList[k]? = some s[k] := by
  have : k < s.data.size := h
  simp [Array.getElem?_eq_getElem this]; rfl

theorem isLetter_neg (c : UInt8) : Lib.indexByte lettersL c < 0 ↔ isLetter c = false := by rw [idx_neg]; simp [isLetter]

theorem isLetter_pos (c : UInt8) : 0 ≤ Lib.indexByte lettersL c ↔ isLetter c = true := by
  have := isLetter_neg c
  cases h : isLetter c
  · simp only [h, iff_true] at this; simp; omega
  · simp only [h] at this; simp at this ⊢; omega

theorem all_snoc (l : List UInt8) (k : Nat) (h : k < l.length) (h1 : (l.take k).all isLetter = true) (h2 : isLetter l[k] = true) : (l.take (k + 1)).all isLetter = true := by
  rw [take_snoc l k h]; simp only [List.all_append, h1, List.all_cons, h2, List.all_nil, Bool.and_self]
theorem all_not (l : List UInt8) (k : Nat) (h : k < l.length) (h2 : isLetter l[k] = false) : l.all isLetter = false := by
  rw [List.all_eq_false]; exact ⟨l[k], List.getElem_mem h, by simp [h2]⟩
theorem bgetL (s : ByteArray) (k : Nat) (h : k < s.size) : s.data.toList[k]'(by rw [bsize]; exact h) = s[k] := by
  have := bget s k h
  rw [List.getElem?_eq_getElem (by rw [bsize]; exact h)] at this
  simpa using this


/-- a work that is not as it should be (of so many pairs) -/
def badW (p : Int) (x : Tri) : Bool := decide (x.a ≠ 1 ∧ x.a ≠ 2) || decide (x.b < 0) || decide (p - 2 < x.b) || decide (x.a = 2 ∧ x.s.size ≠ 0)
def longW (x : Tri) : Bool := decide (16 < x.s.size)
def wrongW (x : Tri) : Bool := decide (wordE x.s ≠ 0)

/-- what is wrong with a sheet -/
def sheetE (p : Int) (l : List Tri) : Int :=
  if 24 < p ∨ 400 < l.length ∨ l.any longW = true then 3 else if p < 2 then 2 else if l.any (badW p) = true then 2 else if l.any wrongW = true then 6 else 0

theorem any_snoc {α : Type} (f : α → Bool) (l : List α) (k : Nat) (h : k < l.length) (h1 : (l.take k).any f = false) (h2 : f l[k] = false) : (l.take (k + 1)).any f = false := by
  rw [take_snoc l k h]; simp only [List.any_append, h1, List.any_cons, h2, List.any_nil, Bool.or_self]
theorem any_at {α : Type} (f : α → Bool) (l : List α) (k : Nat) (h : k < l.length) (h2 : f l[k] = true) : l.any f = true := by
  rw [List.any_eq_true]; exact ⟨l[k], List.getElem_mem h, h2⟩
theorem any_end {α : Type} (f : α → Bool) (l : List α) (k : Nat) (h : ¬ k < l.length) (h1 : (l.take k).any f = false) : l.any f = false := by
  rwa [take_all l k h] at h1
theorem any_not {α : Type} {f : α → Bool} {l : List α} (h : l.any f = false) (k : Nat) (hk : k < l.length) : f l[k] = false := by
  rw [List.any_eq_false] at h
  simpa using h l[k] (List.getElem_mem hk)

theorem bemp (s : ByteArray) : (!s.toList.isEmpty) = decide (s.size ≠ 0) := by
  have h : s.toList.length = s.size := by rw [ByteArray.toList_eq, bsize]
  cases e : s.toList with
  | nil => rw [e] at h; simp at h; simp [← h]
  | cons a r => rw [e] at h; simp at h; simp [← h]
theorem snil (s : ByteArray) : s.toList = [] ↔ s.size = 0 := by
  have h : s.toList.length = s.size := by rw [ByteArray.toList_eq, bsize]
  rw [← List.length_eq_zero_iff, h]
theorem maxif (a b : Int) : (if a < b then b else a) = max a b := by split <;> omega
theorem badW_true (p : Int) (x : Tri) : badW p x = true ↔ (x.a ≠ 1 ∧ x.a ≠ 2) ∨ x.b < 0 ∨ p - 2 < x.b ∨ (x.a = 2 ∧ x.s.size ≠ 0) := by
  simp only [badW, Bool.or_eq_true, decide_eq_true_eq, or_assoc]
theorem badW_false (p : Int) (x : Tri) : badW p x = false ↔ ¬ ((x.a ≠ 1 ∧ x.a ≠ 2) ∨ x.b < 0 ∨ p - 2 < x.b ∨ (x.a = 2 ∧ x.s.size ≠ 0)) := by
  rw [← badW_true]; simp

end Tor
