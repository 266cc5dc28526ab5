/- Merged: DiaT DiaU DiaP. -/
import Derived.Test.YtoccplfnjammjaaGreatDoorDRows
import Derived.Test.YtoccplfnjammjaaGreatDoorTxt
set_option linter.unusedSimpArgs false
set_option linter.unusedVariables false
namespace Go.Proofs.YtoccplfnjammjaaGreatDoor
open Go Go.RowKit Tor

theorem _root_.Tor.Rd.nat {w : World} {B : Nat} {A : Option Addr} {l : List Nat} (h : Rd 1 nenc w B A l) {k : Nat} (hk : k < l.length) :
    ∃ b o, A = some ⟨b, o, none⟩ ∧ b < B ∧ w.cell? ⟨b, o + k, none⟩ = some (.int .i64 (l[k] : Nat)) := by
  obtain ⟨b, o, e, hb, hc⟩ := h (by intro e; subst e; simp at hk)
  have hx : l[k]? = some l[k] := List.getElem?_eq_getElem hk
  have := hc k _ hx 0 _ rfl
  simp only [Nat.mul_one, Nat.add_zero] at this
  exact ⟨b, o, e, hb, this⟩
def rowsS (p : Nat) (l : List Tri) : List (List Nat) := (List.range (rowsN (levL l l.length))).map (rowS p l (levL l l.length))
def pickL (l : List Tri) (R : List (List Nat)) : List Tri := R.flatMap fun r => r.map (xAt l)
/-- the sheet of the diagram -/
def sheetD (p : Nat) (l : List Tri) : List Tri := pickL l (rowsS p l)
def sewB : List UInt8 := [115, 101, 119]
def dashB : List UInt8 := [45]
/-- the look of a work -/
def lookB (x : Tri) : List UInt8 := if x.a = 2 then sewB else if x.s.size = 0 then dashB else x.s.data.toList
def hasB (L : List (List UInt8)) (x : List UInt8) : Bool := L.any fun y => decide (y = x)
theorem hasB_iff {L : List (List UInt8)} {x : List UInt8} : hasB L x = true ↔ x ∈ L := by unfold hasB; simp
def idxB (L : List (List UInt8)) (x : List UInt8) : Nat := L.findIdx fun y => decide (y = x)
def addL (L : List (List UInt8)) (x : List UInt8) : List (List UInt8) := if hasB L x = true then L else L ++ [x]
/-- the looks, behind others -/
def looksF (L : List (List UInt8)) (d : List Tri) : List (List UInt8) := d.foldl (fun L x => addL L (lookB x)) L
def looksL (d : List Tri) : List (List UInt8) := looksF [] d
theorem addL_len (L : List (List UInt8)) (x : List UInt8) : L.length ≤ (addL L x).length ∧ (addL L x).length ≤ L.length + 1 := by
  unfold addL; split <;> simp
theorem addL_mem {L : List (List UInt8)} {x y : List UInt8} : y ∈ addL L x ↔ y ∈ L ∨ y = x := by
  unfold addL
  split
  · rename_i h
    exact ⟨.inl, fun h' => h'.elim id (fun e => e ▸ hasB_iff.1 h)⟩
  · simp
theorem addL_nodup {L : List (List UInt8)} (h : L.Nodup) (x : List UInt8) : (addL L x).Nodup := by
  unfold addL
  split
  · exact h
  · rename_i hx
    rw [List.nodup_append]
    exact ⟨h, by simp, fun a ha b hb => by simp at hb; subst hb; exact fun e => hx (hasB_iff.2 (e ▸ ha))⟩
theorem looksF_snoc (L : List (List UInt8)) (d : List Tri) (x : Tri) : looksF L (d ++ [x]) = addL (looksF L d) (lookB x) := by unfold looksF; rw [List.foldl_append]; rfl
theorem looksF_mono : ∀ (d : List Tri) (L : List (List UInt8)), L.length ≤ (looksF L d).length ∧ L <+: looksF L d
  | [], L => ⟨Nat.le_refl _, List.prefix_refl _⟩
  | x :: r, L => by
    obtain ⟨h1, h2⟩ := looksF_mono r (addL L (lookB x))
    have h3 : L <+: addL L (lookB x) := by unfold addL; split; exact List.prefix_refl _; exact List.prefix_append _ _
    exact ⟨Nat.le_trans (addL_len _ _).1 h1, h3.trans h2⟩
theorem looksF_app (L : List (List UInt8)) (d e : List Tri) : looksF L (d ++ e) = looksF (looksF L d) e := by unfold looksF; rw [List.foldl_append]
theorem looksF_nodup : ∀ (d : List Tri) (L : List (List UInt8)), L.Nodup → (looksF L d).Nodup
  | [], L, h => h
  | x :: r, L, h => looksF_nodup r _ (addL_nodup h _)
theorem looksF_mem : ∀ (d : List Tri) (L : List (List UInt8)) (y : List UInt8), y ∈ looksF L d ↔ y ∈ L ∨ ∃ x ∈ d, y = lookB x
  | [], L, y => by simp [looksF]
  | x :: r, L, y => by
    have := looksF_mem r (addL L (lookB x)) y
    show y ∈ looksF (addL L (lookB x)) r ↔ _
    rw [this, addL_mem]
    simp only [List.mem_cons, exists_eq_or_imp, or_assoc]
theorem looksL_le (d : List Tri) (k : Nat) : (looksL (d.take k)).length ≤ (looksL d).length := by
  have : d = d.take k ++ d.drop k := (List.take_append_drop k d).symm
  unfold looksL
  conv => rhs; rw [this]
  rw [looksF_app]
  exact (looksF_mono _ _).1
/-- letters -/
def letN (n : Nat) : UInt8 := if n < 26 then UInt8.ofNat (65 + n) else UInt8.ofNat (71 + n)
def lettersL : List UInt8 := [65, 66, 67, 68, 69, 70, 71, 72, 73, 74, 75, 76, 77, 78, 79, 80, 81, 82, 83, 84, 85, 86, 87, 88, 89, 90, 97, 98, 99, 100, 101, 102, 103, 104, 105, 106, 107, 108, 109, 110, 111, 112, 113, 114, 115, 116, 117, 118, 119, 120, 121, 122]
theorem letters_len : lettersL.length = 52 := by decide
theorem letters_get : ∀ n, n < 52 → lettersL[n]? = some (letN n) := by decide
theorem letN_inj : ∀ m, m < 52 → ∀ n, n < 52 → letN m = letN n → m = n := by decide
theorem letN_nb : ∀ n, n < 52 → letN n ≠ 32 ∧ letN n ≠ 10 ∧ letN n ≠ 124 ∧ letN n ≠ 40 ∧ letN n ≠ 41 ∧ (letN n).toNat < 128 ∧ 33 ≤ (letN n).toNat := by decide
/-- the byte of a row's drawing at q -/
def drawQ (l : List Tri) (L : List (List UInt8)) (r : List Nat) (q : Nat) : UInt8 :=
  match r.find? (fun i => decide (2 * (xAt l i).b ≤ (q : Int)) && decide ((q : Int) ≤ 2 * (xAt l i).b + 2)) with
  | some i => if (q : Int) = 2 * (xAt l i).b then 40 else if (q : Int) = 2 * (xAt l i).b + 1 then letN (idxB L (lookB (xAt l i))) else 41
  | none => if q % 2 = 0 then 124 else 32
def drawR (p : Nat) (l : List Tri) (L : List (List UInt8)) (r : List Nat) : List UInt8 := (List.range (2 * p - 1)).map (drawQ l L r)
def headL (p n : Nat) : List UInt8 := [100, 105, 97, 103, 114, 97, 109, 32] ++ (Lib.itoa p ++ 32 :: Lib.itoa n)
def letL (i : Nat) (x : List UInt8) : List UInt8 := [108, 101, 116, 116, 101, 114, 32] ++ (letN i :: 32 :: x)
/-- the lines of the letters from number i on -/
def letsL (i : Nat) (L : List (List UInt8)) : List (List UInt8) := (List.range L.length).map fun k => letL (i + k) (L.getD k [])
/-- the lines of a diagram -/
def linesD (p : Nat) (l : List Tri) : List (List UInt8) := headL p (rowsS p l).length :: (letsL 0 (looksL (sheetD p l)) ++ (rowsS p l).map (drawR p l (looksL (sheetD p l))))
def joinL (X : List (List UInt8)) : List UInt8 := X.flatMap fun s => s ++ [10]
theorem joinL_snoc (X : List (List UInt8)) (s : List UInt8) : joinL (X ++ [s]) = joinL X ++ (s ++ [10]) := by unfold joinL; simp
theorem joinL_app (X Y : List (List UInt8)) : joinL (X ++ Y) = joinL X ++ joinL Y := by unfold joinL; simp
/-- the text of a diagram -/
def textD (p : Nat) (l : List Tri) : List UInt8 := joinL (linesD p l)

/-- ### reading -/
def threeP (line first : List UInt8) : Option (List UInt8 × List UInt8) :=
  match spl 32 line with
  | [a, b, c] => if a = first then some (b, c) else none
  | _ => none
def dgB : List UInt8 := [100, 105, 97, 103, 114, 97, 109]
def ltB' : List UInt8 := [108, 101, 116, 116, 101, 114]
/-- a look that may be said -/
def sayB (x : List UInt8) : Bool := decide (x = [115, 101, 119]) || decide (x = [45]) || decide (wordE (bN x) = 0)
def lookLn (n : Nat) (s : List UInt8) : Option (List UInt8) :=
  match threeP s ltB' with
  | none => none
  | some (a, x) => if n < 52 ∧ a = [letN n] ∧ x ≠ [] ∧ sayB x = true then some x else none
/-- the looks that are said; what is left; or how many lines are left behind the wrong one -/
def lookP : List (List UInt8) → List (List UInt8) → Except Nat (List (List UInt8) × List (List UInt8))
  | acc, [] => .ok (acc, [])
  | acc, s :: r => if ltB'.isPrefixOf s then (match lookLn acc.length s with | none => .error r.length | some x => lookP (acc ++ [x]) r) else .ok (acc, s :: r)
/-- the work of a look -/
def workD (x : List UInt8) (q : Nat) : Tri := if x = [115, 101, 119] then ⟨2, q, bN []⟩ else if x = [45] then ⟨1, q, bN []⟩ else ⟨1, q, bN x⟩
/-- the works of a row's drawing from place q on (k places are left) -/
def rowW (p : Nat) (K : List (List UInt8)) (s : List UInt8) : Nat → Nat → List Tri → Option (List Tri)
  | 0, _, acc => some acc
  | k + 1, q, acc =>
    if p ≤ q then some acc else
    if 0 < q ∧ s.getD (2 * q - 1) 0 ≠ 32 then none else
    if s.getD (2 * q) 0 = 124 then rowW p K s k (q + 1) acc else
    if s.getD (2 * q) 0 ≠ 40 ∨ q + 1 = p ∨ s.getD (2 * q + 2) 0 ≠ 41 then none else
    match (lettersL.take K.length).findIdx? (· == s.getD (2 * q + 1) 0) with
    | none => none
    | some n => rowW p K s k (q + 2) (acc ++ [workD (K.getD n []) q])
def rowP (p : Nat) (K : List (List UInt8)) (s : List UInt8) : Option (List Tri) := if s.length = 2 * p - 1 then rowW p K s p 0 [] else none
/-- the rows: works and what is left; or how many lines are left behind the wrong one; a missing one: none -/
def rowsP (p : Nat) (K : List (List UInt8)) : Nat → List Tri → List (List UInt8) → Except (Option Nat) (List Tri × List (List UInt8))
  | 0, acc, r => .ok (acc, r)
  | n + 1, acc, [] => .error none
  | n + 1, acc, s :: r => match rowP p K s with
    | none => .error (some r.length)
    | some ws => rowsP p K n (acc ++ ws) r
/-- what the lines say: pairs and works; or the number of the wrong line -/
def readD (X : List (List UInt8)) : Except Nat (Nat × List Tri) :=
  match X with
  | [] => .error 1
  | s :: r => match threeP s dgB with
    | none => .error 1
    | some (a, b) => if (intW a 2 24).2 ≠ 0 ∨ (intW b 0 400).2 ≠ 0 then .error 1 else
      match lookP [] r with
      | .error k => .error (X.length - k)
      | .ok (K, r2) => match rowsP (intW a 2 24).1.toNat K (intW b 0 400).1.toNat [] r2 with
        | .error none => .error (X.length + 1)
        | .error (some k) => .error (X.length - k)
        | .ok (d, []) => .ok ((intW a 2 24).1.toNat, d)
        | .ok (_, _ :: r3) => .error (X.length - r3.length)
end Go.Proofs.YtoccplfnjammjaaGreatDoor

namespace Go.Proofs.YtoccplfnjammjaaGreatDoor
open Go Go.RowKit Tor

section
variable (l : List Tri) (L : List (List UInt8))
def inQ (l : List Tri) (q : Nat) (i : Nat) : Bool := decide (2 * (xAt l i).b ≤ (q : Int)) && decide ((q : Int) ≤ 2 * (xAt l i).b + 2)
theorem inQ_iff {q i : Nat} : inQ l q i = true ↔ 2 * (xAt l i).b ≤ (q : Int) ∧ (q : Int) ≤ 2 * (xAt l i).b + 2 := by unfold inQ; simp
theorem drawQ_nil (q : Nat) : drawQ l L [] q = if q % 2 = 0 then 124 else 32 := rfl
theorem drawQ_none {r : List Nat} {q : Nat} (h : ∀ i ∈ r, inQ l q i = false) : drawQ l L r q = if q % 2 = 0 then 124 else 32 := by
  unfold drawQ
  have : r.find? (fun i => decide (2 * (xAt l i).b ≤ (q : Int)) && decide ((q : Int) ≤ 2 * (xAt l i).b + 2)) = none := List.find?_eq_none.2 (fun x hx => by
    have := h x hx
    unfold inQ at this
    simp [this])
  rw [this]
def workQ (l : List Tri) (L : List (List UInt8)) (i q : Nat) : UInt8 := if (q : Int) = 2 * (xAt l i).b then 40 else if (q : Int) = 2 * (xAt l i).b + 1 then letN (idxB L (lookB (xAt l i))) else 41
/-- works of a row are apart -/
def Apart (l : List Tri) (r : List Nat) : Prop := ∀ i ∈ r, ∀ k ∈ r, i ≠ k → (xAt l i).b + 2 ≤ (xAt l k).b ∨ (xAt l k).b + 2 ≤ (xAt l i).b
theorem drawQ_some {r : List Nat} (ha : Apart l r) {q i : Nat} (hi : i ∈ r) (h : inQ l q i = true) : drawQ l L r q = workQ l L i q := by
  unfold drawQ
  cases hf : r.find? (fun i => decide (2 * (xAt l i).b ≤ (q : Int)) && decide ((q : Int) ≤ 2 * (xAt l i).b + 2)) with
  | none => exact absurd h (by have := List.find?_eq_none.1 hf i hi; unfold inQ; simpa using this)
  | some k =>
    have hk := List.mem_of_find?_eq_some hf
    have hp := List.find?_some hf
    have hkq : inQ l q k = true := hp
    have e : i = k := Classical.byContradiction fun hne => by
      rw [inQ_iff] at h hkq
      have := ha i hi k hk hne
      omega
    subst e
    rfl
theorem drawQ_snoc {r : List Nat} {i : Nat} (ha : Apart l (r ++ [i])) (hni : i ∉ r) (q : Nat) : drawQ l L (r ++ [i]) q = if inQ l q i = true then workQ l L i q else drawQ l L r q := by
  by_cases h : inQ l q i = true
  · rw [if_pos h]; exact drawQ_some l L ha (by simp) h
  · rw [if_neg h]
    have har : Apart l r := fun a ha' b hb hne => ha a (by simp [ha']) b (by simp [hb]) hne
    by_cases hx : ∃ k ∈ r, inQ l q k = true
    · obtain ⟨k, hk, hkq⟩ := hx
      rw [drawQ_some l L ha (show k ∈ r ++ [i] by simp [hk]) hkq, drawQ_some l L har hk hkq]
    · have hn : ∀ k ∈ r, inQ l q k = false := fun k hk => by
        cases hv : inQ l q k with
        | false => rfl
        | true => exact absurd ⟨k, hk, hv⟩ hx
      rw [drawQ_none l L hn, drawQ_none l L (fun k hk => by
        rcases List.mem_append.1 hk with hk | hk
        · exact hn k hk
        · simp at hk; subst hk; simpa using h)]
theorem range_map_add (f : Nat → UInt8) (n k : Nat) : (List.range (n + k)).map f = (List.range n).map f ++ (List.range k).map (fun j => f (n + j)) := by
  rw [List.range_add, List.map_append, List.map_map]; rfl
/-- what stands between two places -/
def sepB (p : Nat) : List UInt8 := if p = 0 then [] else [32]
/-- a place that is no work's -/
theorem draw_free {p : Nat} {r : List Nat} (h1 : ∀ i ∈ r, (xAt l i).b ≠ (p : Int)) (h2 : ∀ i ∈ r, (xAt l i).b + 1 ≠ (p : Int)) :
    (List.range (2 * (p + 1) - 1)).map (drawQ l L r) = (List.range (2 * p - 1)).map (drawQ l L r) ++ sepB p ++ [124] := by
  have a1 : drawQ l L r (2 * p) = 124 := by
    rw [drawQ_none l L (fun i hi => by
      have x1 := h1 i hi; have x2 := h2 i hi
      cases hv : inQ l (2 * p) i with
      | false => rfl
      | true => rw [inQ_iff] at hv; omega)]
    rw [if_pos (by omega)]
  by_cases hp : p = 0
  · subst hp
    simp [List.range_succ, sepB]
    simpa using a1
  · have a2 : drawQ l L r (2 * p - 1) = 32 := by
      rw [drawQ_none l L (fun i hi => by
        have x1 := h1 i hi; have x2 := h2 i hi
        cases hv : inQ l (2 * p - 1) i with
        | false => rfl
        | true => rw [inQ_iff] at hv; omega)]
      rw [if_neg (by omega)]
    unfold sepB
    rw [if_neg hp, show 2 * (p + 1) - 1 = (2 * p - 1) + 2 by omega, range_map_add]
    have e2 : 2 * p - 1 + 1 = 2 * p := by omega
    simp [List.range_succ, a2, e2, a1]
/-- a place that is the left one of a work -/
theorem draw_work {p : Nat} {r : List Nat} (ha : Apart l r) {i : Nat} (hi : i ∈ r) (hb : (xAt l i).b = (p : Int)) (h2 : ∀ i ∈ r, (xAt l i).b + 1 ≠ (p : Int)) :
    (List.range (2 * (p + 2) - 1)).map (drawQ l L r) = (List.range (2 * p - 1)).map (drawQ l L r) ++ sepB p ++ [40, letN (idxB L (lookB (xAt l i))), 41] := by
  have a0 : drawQ l L r (2 * p) = 40 := by
    rw [drawQ_some l L ha hi (by rw [inQ_iff]; omega)]; unfold workQ; rw [if_pos (by omega)]
  have a1 : drawQ l L r (2 * p + 1) = letN (idxB L (lookB (xAt l i))) := by
    rw [drawQ_some l L ha hi (by rw [inQ_iff]; omega)]; unfold workQ; rw [if_neg (by omega), if_pos (by omega)]
  have a2 : drawQ l L r (2 * p + 2) = 41 := by
    rw [drawQ_some l L ha hi (by rw [inQ_iff]; omega)]; unfold workQ; rw [if_neg (by omega), if_neg (by omega)]
  by_cases hp : p = 0
  · subst hp
    simp at a0 a1 a2
    simp [List.range_succ, sepB, a0, a1, a2]
  · have a3 : drawQ l L r (2 * p - 1) = 32 := by
      rw [drawQ_none l L (fun k hk => by
        have x2 := h2 k hk
        have x3 := fun hne => ha i hi k hk hne
        cases hv : inQ l (2 * p - 1) k with
        | false => rfl
        | true =>
          rw [inQ_iff] at hv
          by_cases hne : i = k
          · subst hne; omega
          · have := x3 hne; omega)]
      rw [if_neg (by omega)]
    unfold sepB
    rw [if_neg hp, show 2 * (p + 2) - 1 = (2 * p - 1) + 4 by omega, range_map_add]
    have e2 : 2 * p - 1 + 1 = 2 * p := by omega
    have e3 : 2 * p - 1 + 2 = 2 * p + 1 := by omega
    have e4 : 2 * p - 1 + 3 = 2 * p + 2 := by omega
    simp [List.range_succ, a3, e2, e3, e4, a0, a1, a2]
end
theorem rowS_apart (p : Nat) (l : List Tri) (m n : Nat) : Apart l (rowS p l (levL l m) n) := fun i hi k hk hne => by
  have hl := levL_len l m
  have h1 := rowS_mem.1 hi
  have h2 := rowS_mem.1 hk
  rw [hl] at h1 h2
  exact row_apart l h1.1 h2.1 (h1.2.1.trans h2.2.1.symm) hne
end Go.Proofs.YtoccplfnjammjaaGreatDoor

namespace Go.Proofs.YtoccplfnjammjaaGreatDoor
open Go Go.RowKit Tor

/-- works of a sheet with p pairs -/
def InP (p : Nat) (l : List Tri) : Prop := ∀ i, i < l.length → ∃ t : Nat, t + 2 ≤ p ∧ (xAt l i).b = (t : Int)
theorem InP.row {p : Nat} {l : List Tri} (h : InP p l) : ∀ i, i < l.length → ∃ t : Nat, t < p ∧ (xAt l i).b = (t : Int) := fun i hi => by
  obtain ⟨t, h1, h2⟩ := h i hi
  exact ⟨t, by omega, h2⟩
theorem lev_lt_rows (l : List Tri) {i : Nat} (hi : i < l.length) : (levL l l.length).getD i 0 < rowsN (levL l l.length) := by
  have hl := levL_len l l.length
  have hi' : i < (levL l l.length).length := by omega
  have h1 : (levL l l.length)[i] + 1 ≤ rowsN (levL l l.length) := le_supL (List.mem_map.2 ⟨_, List.getElem_mem hi', rfl⟩)
  rw [List.getD_eq_getElem?_getD, List.getElem?_eq_getElem hi']
  exact h1
theorem rows_flat_mem {p : Nat} {l : List Tri} (h : InP p l) (i : Nat) : i ∈ (rowsS p l).flatten ↔ i < l.length := by
  have hl := levL_len l l.length
  rw [List.mem_flatten]
  constructor
  · rintro ⟨r, hr, hi⟩
    obtain ⟨n, _, rfl⟩ := List.mem_map.1 hr
    have := (rowS_mem.1 hi).1
    omega
  · intro hi
    exact ⟨_, List.mem_map.2 ⟨(levL l l.length).getD i 0, List.mem_range.2 (lev_lt_rows l hi), rfl⟩, rowS_mem.2 ⟨by omega, rfl, h.row i hi⟩⟩
theorem rows_flat_nodup (p : Nat) (l : List Tri) : (rowsS p l).flatten.Nodup := by
  unfold List.Nodup
  rw [List.pairwise_flatten]
  refine ⟨fun r hr => ?_, ?_⟩
  · obtain ⟨n, _, rfl⟩ := List.mem_map.1 hr
    exact rowS_nodup p l l.length n
  · unfold rowsS
    rw [List.pairwise_map]
    refine List.Pairwise.imp (fun {a b} hab i hi k hk e => ?_) (List.nodup_range (n := rowsN (levL l l.length)))
    subst e
    have h1 := (rowS_mem.1 hi).2.1
    have h2 := (rowS_mem.1 hk).2.1
    exact hab (h1.symm.trans h2)
theorem rows_flat_perm {p : Nat} {l : List Tri} (h : InP p l) : (rowsS p l).flatten.Perm (List.range l.length) :=
  (List.perm_ext_iff_of_nodup (rows_flat_nodup p l) List.nodup_range).2 fun i => by rw [rows_flat_mem h, List.mem_range]
theorem pickL_flat (l : List Tri) (R : List (List Nat)) : pickL l R = R.flatten.map (xAt l) := by
  unfold pickL
  induction R with
  | nil => rfl
  | cons r R ih => rw [List.flatMap_cons, ih, List.flatten_cons, List.map_append]
theorem sheetD_len {p : Nat} {l : List Tri} (h : InP p l) : (sheetD p l).length = l.length := by
  unfold sheetD
  rw [pickL_flat, List.length_map, (rows_flat_perm h).length_eq, List.length_range]
theorem row_in {p : Nat} {l : List Tri} {r : List Nat} (hr : r ∈ rowsS p l) : ∀ i ∈ r, i < l.length := fun i hi => by
  obtain ⟨n, _, rfl⟩ := List.mem_map.1 hr
  have := (rowS_mem.1 hi).1
  rw [levL_len] at this
  exact this
theorem row_len {p : Nat} {l : List Tri} (h : InP p l) {r : List Nat} (hr : r ∈ rowsS p l) : r.length ≤ l.length := by
  have h1 := (List.sublist_flatten_of_mem hr).length_le
  rw [(rows_flat_perm h).length_eq, List.length_range] at h1
  exact h1
theorem rowsS_len (p : Nat) (l : List Tri) : (rowsS p l).length ≤ l.length := by
  unfold rowsS
  rw [List.length_map, List.length_range]
  exact rowsN_le l l.length
theorem pick_part (l : List Tri) (R : List (List Nat)) (f t : Nat) : (pickL l ((R.drop f).take t)).length ≤ (pickL l R).length := by
  have h1 : (pickL l R).length = (pickL l (R.take f)).length + (pickL l (R.drop f)).length := by
    conv => lhs; rw [← List.take_append_drop f R]
    unfold pickL
    rw [List.flatMap_append, List.length_append]
  have h2 : (pickL l (R.drop f)).length = (pickL l ((R.drop f).take t)).length + (pickL l ((R.drop f).drop t)).length := by
    conv => lhs; rw [← List.take_append_drop t (R.drop f)]
    unfold pickL
    rw [List.flatMap_append, List.length_append]
  omega
end Go.Proofs.YtoccplfnjammjaaGreatDoor
