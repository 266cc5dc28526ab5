/- Plain: where the pieces of a line end. -/
import Derived.Lib.SpaceUEq
import Derived.Test.YtohcmfobnkaaiaaGreatDoorWdM
set_option linter.unusedSimpArgs false
set_option linter.unusedVariables false
namespace Go.Proofs.YtohcmfobnkaaiaaGreatDoor
open Go

/-- the state in which the search for an end stops -/
def finP : Bool → List UInt8 → Bool
  | q, [] => q
  | q, c :: r => if c = 34 then finP (!q) r else if c = 32 ∧ q = false then false else finP q r
theorem end_lt : ∀ (L : List UInt8) (q : Bool) (k : Nat), endP q L = some k → k < L.length
  | [], q, k, h => by simp [endP] at h
  | c :: r, q, k, h => by
    rw [endP] at h
    split at h
    · cases h1 : endP (!q) r with
      | none => rw [h1] at h; simp at h
      | some j => rw [h1] at h; simp at h; have := end_lt r _ _ h1; simp; omega
    split at h
    · simp at h; simp; omega
    · cases h1 : endP q r with
      | none => rw [h1] at h; simp at h
      | some j => rw [h1] at h; simp at h; have := end_lt r _ _ h1; simp; omega
theorem fin_found : ∀ (L : List UInt8) (q : Bool) (k : Nat), endP q L = some k → finP q L = false
  | [], q, k, h => by simp [endP] at h
  | c :: r, q, k, h => by
    rw [endP] at h
    rw [finP]
    split at h
    · rename_i hc
      rw [if_pos hc]
      cases h1 : endP (!q) r with
      | none => rw [h1] at h; simp at h
      | some j => exact fin_found r _ _ h1
    rename_i hc
    rw [if_neg hc]
    split at h
    · rename_i hc2
      rw [if_pos hc2]
    · rename_i hc2
      rw [if_neg hc2]
      cases h1 : endP q r with
      | none => rw [h1] at h; simp at h
      | some j => exact fin_found r _ _ h1

/-- the search has come to pos, in the state q -/
def AtP (q0 : Bool) (L : List UInt8) (q : Bool) (pos : Nat) : Prop := endP q0 L = (endP q (L.drop pos)).map (· + pos) ∧ finP q0 L = finP q (L.drop pos)
theorem AtP.start (q0 : Bool) (L : List UInt8) : AtP q0 L q0 0 := by
  refine ⟨?_, by simp⟩
  simp
theorem map_add (o : Option Nat) (a b : Nat) : (o.map (· + a)).map (· + b) = o.map (· + (b + a)) := by
  cases o with
  | none => rfl
  | some k => simp; omega
theorem AtP.one {q0 : Bool} {L : List UInt8} {q : Bool} {pos : Nat} (h : AtP q0 L q pos) (hp : pos < L.length) (hc : ¬ (L[pos] = 32 ∧ (if L[pos] = 34 then !q else q) = false)) :
    AtP q0 L (if L[pos] = 34 then !q else q) (pos + 1) := by
  obtain ⟨h1, h2⟩ := h
  rw [List.drop_eq_getElem_cons hp] at h1 h2
  generalize L[pos] = c at *
  rw [endP] at h1
  rw [finP] at h2
  by_cases h34 : c = 34
  · rw [if_pos h34] at h1 h2 ⊢
    rw [map_add] at h1
    exact ⟨h1, h2⟩
  · rw [if_neg h34] at h1 h2 hc ⊢
    rw [if_neg hc] at h1 h2
    rw [map_add] at h1
    exact ⟨h1, h2⟩
theorem AtP.hit {q0 : Bool} {L : List UInt8} {q : Bool} {pos : Nat} (h : AtP q0 L q pos) (hp : pos < L.length) (hc : L[pos] = 32) (hq : q = false) : endP q0 L = some pos ∧ finP q0 L = false := by
  obtain ⟨h1, h2⟩ := h
  rw [List.drop_eq_getElem_cons hp, hc, hq] at h1 h2
  have e : endP q0 L = some pos := by rw [h1, endP]; simp
  exact ⟨e, fin_found _ _ _ e⟩
theorem AtP.skip {q0 : Bool} {L : List UInt8} {q : Bool} {pos : Nat} : ∀ {k : Nat}, AtP q0 L q pos → (∀ j, j < k → pos + j < L.length ∧ 128 ≤ (L.getD (pos + j) 0).toNat) → AtP q0 L q (pos + k)
  | 0, h, _ => h
  | k + 1, h, hb => by
    have h1 := AtP.skip (k := k) h (fun j hj => hb j (by omega))
    obtain ⟨hl, h8⟩ := hb k (by omega)
    have e : L.getD (pos + k) 0 = L[pos + k] := by simp [List.getD, List.getElem?_eq_getElem hl]
    rw [e] at h8
    have n34 : ¬ L[pos + k] = 34 := fun he => by rw [he] at h8; exact absurd h8 (by decide)
    have n32 : ¬ L[pos + k] = 32 := fun he => by rw [he] at h8; exact absurd h8 (by decide)
    have h2 := h1.one hl (fun hh => n32 hh.1)
    rw [if_neg n34] at h2
    exact h2
theorem AtP.done {q0 : Bool} {L : List UInt8} {q : Bool} {pos : Nat} (h : AtP q0 L q pos) (hp : L.length ≤ pos) : endP q0 L = none ∧ finP q0 L = q := by
  obtain ⟨h1, h2⟩ := h
  rw [List.drop_eq_nil_of_le hp] at h1 h2
  exact ⟨h1, h2⟩

/-- a rune is a byte below 128, or its bytes are from 128 on, and so is it -/
theorem rune_big (s : ByteArray) (pos : Nat) (hp : pos < s.data.toList.length) :
    ((s.data.toList[pos]).toNat < 128 ∧ Utf8.decode s pos = ((s.data.toList[pos]).toNat, 1)) ∨
    (128 ≤ (Utf8.decode s pos).1 ∧ ∀ j, j < (Utf8.decode s pos).2 → pos + j < s.data.toList.length ∧ 128 ≤ (s.data.toList.getD (pos + j) 0).toNat) := by
  have e0 : s.data.toList.getD pos 0 = s.data.toList[pos] := by simp [List.getD, List.getElem?_eq_getElem hp]
  rw [Lib.decode_N, e0]
  have hc := Lib.decodeN_conts (s.data.toList.length - pos) (s.data.toList[pos]).toNat (s.data.toList.getD (pos + 1) 0).toNat (s.data.toList.getD (pos + 2) 0).toNat (s.data.toList.getD (pos + 3) 0).toNat
  have hd := Lib.decodeN_cases (s.data.toList.length - pos) (s.data.toList[pos]).toNat (s.data.toList.getD (pos + 1) 0).toNat (s.data.toList.getD (pos + 2) 0).toNat (s.data.toList.getD (pos + 3) 0).toNat
  by_cases h8 : (s.data.toList[pos]).toNat < 128
  · exact .inl ⟨h8, Lib.decodeN_ascii _ _ _ _ _ h8⟩
  · refine .inr ⟨?_, ?_⟩
    · rcases hd with h | ⟨_, _, _, h, e⟩ | ⟨_, _, _, _, h, e⟩ | ⟨h, _⟩ | e
      · omega
      · rw [e]; exact h
      · rw [e]; simp only; omega
      · omega
      · rw [e]; decide
    · intro j hj
      obtain ⟨c2, c3, c4, c5⟩ := hc
      match j, hj with
      | 0, _ => exact ⟨hp, by rw [Nat.add_zero, e0]; omega⟩
      | 1, hj => have := c2 (by omega); exact ⟨by omega, by omega⟩
      | 2, hj => have := c3 (by omega); exact ⟨by omega, by omega⟩
      | 3, hj => have := c4 (by omega); exact ⟨by omega, by omega⟩
      | j + 4, hj => omega

/-! ### the pieces -/
theorem pieces_fuel : ∀ (f g : Nat) (L : List UInt8), L.length ≤ f → L.length ≤ g → piecesG f L = piecesG g L
  | 0, 0, L, _, _ => rfl
  | 0, g + 1, L, h, _ => by
    have : L = [] := List.eq_nil_of_length_eq_zero (by omega)
    subst this; rfl
  | f + 1, 0, L, _, h => by
    have : L = [] := List.eq_nil_of_length_eq_zero (by omega)
    subst this; rfl
  | f + 1, g + 1, L, h, h' => by
    rw [piecesG, piecesG]
    cases he : endP false L with
    | none => rfl
    | some k =>
      have := end_lt _ _ _ he
      simp only
      rw [pieces_fuel f g (L.drop (k + 1)) (by rw [List.length_drop]; omega) (by rw [List.length_drop]; omega)]
def pcsG (L : List UInt8) : List (List UInt8) := piecesG L.length L
theorem pcsG_none {L : List UInt8} (h : endP false L = none) : pcsG L = [L] := by
  unfold pcsG
  cases L with
  | nil => rfl
  | cons c r => rw [List.length_cons, piecesG, h]
theorem pcsG_some {L : List UInt8} {k : Nat} (h : endP false L = some k) : pcsG L = L.take k :: pcsG (L.drop (k + 1)) := by
  have hk := end_lt _ _ _ h
  unfold pcsG
  cases L with
  | nil => simp at hk
  | cons c r =>
    conv => lhs; rw [List.length_cons, piecesG, h]
    simp only
    rw [pieces_fuel r.length ((c :: r).drop (k + 1)).length _ (by simp) (Nat.le_refl _)]
/-- what IndexFunc returns -/
def endI (q : Bool) (L : List UInt8) : Int := match endP q L with
  | none => -1
  | some k => k
theorem endI_some {q : Bool} {L : List UInt8} {k : Nat} (h : endP q L = some k) : endI q L = k := by unfold endI; rw [h]
theorem endI_none {q : Bool} {L : List UInt8} (h : endP q L = none) : endI q L = -1 := by unfold endI; rw [h]

/-- the fields of pieces, one none among them -/
theorem split_bad {L : List UInt8} (h1 : ¬ 4096 < L.length) (h2 : L ≠ []) {pre : List (List UInt8)} (hp : pre <+: pcsG L) (hb : (pre.map fieldP).any (·.isNone) = true) : splitP L = ([], 6) := by
  unfold splitP
  rw [if_neg h1, if_neg h2]
  simp only
  rw [if_pos]
  obtain ⟨t, ht⟩ := hp
  show ((pcsG L).map fieldP).any _ = true
  rw [← ht, List.map_append, List.any_append, hb]
  rfl
theorem split_ok {L : List UInt8} (h1 : ¬ 4096 < L.length) (h2 : L ≠ []) (hb : ((pcsG L).map fieldP).any (·.isNone) = false) :
    splitP L = if 64 < (pcsG L).length then ([], 3) else (((pcsG L).map fieldP).filterMap id, 0) := by
  unfold splitP
  rw [if_neg h1, if_neg h2]
  simp only
  change (if ((pcsG L).map fieldP).any (·.isNone) = true then _ else if 64 < ((pcsG L).map fieldP).length then _ else _) = _
  rw [hb, List.length_map]
  rfl
theorem pcsG_len : ∀ (n : Nat) (L : List UInt8), L.length = n → (pcsG L).length ≤ L.length + 1 ∧ ∀ x ∈ pcsG L, x.length ≤ L.length := by
  intro n
  induction n using Nat.strongRecOn with
  | ind n ih =>
    intro L hL
    cases he : endP false L with
    | none => rw [pcsG_none he]; simp
    | some k =>
      have hk := end_lt _ _ _ he
      have := ih (L.drop (k + 1)).length (by rw [List.length_drop]; omega) _ rfl
      rw [pcsG_some he]
      rw [List.length_drop] at this
      refine ⟨by simp; omega, fun x hx => ?_⟩
      rcases List.mem_cons.1 hx with rfl | hx
      · rw [List.length_take]; omega
      · have := this.2 x hx; omega
end Go.Proofs.YtohcmfobnkaaiaaGreatDoor
