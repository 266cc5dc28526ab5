/- Plain: looks, letters, the text of a diagram. -/
import Derived.Test.YtoccplfnjammjaaGreatDoorDRows
import Derived.Test.YtoccplfnjammjaaGreatDoorTxt
set_option linter.unusedSimpArgs false
set_option linter.unusedVariables false
namespace Go.Proofs.YtoccplfnjammjaaGreatDoor
open Go Go.RowKit Tor

theorem _root_.Tor.Rd.nat {w : World} {B : Nat} {A : Option Addr} {l : List Nat} (h : Rd 1 nenc w B A l) {k : Nat} (hk : k < l.length) :
    ∃ b o, A = some ⟨b, o, none⟩ ∧ b < B ∧ w.cell? ⟨b, o + k, none⟩ = some (.int .i64 (l[k] : Nat)) := by
  obtain ⟨b, o, e, hb, hc⟩ := h (by intro e; subst e; simp at hk)
  have hx : l[k]? = some l[k] := List.getElem?_eq_getElem hk
  have := hc k _ hx 0 _ rfl
  simp only [Nat.mul_one, Nat.add_zero] at this
  exact ⟨b, o, e, hb, this⟩
def rowsS (p : Nat) (l : List Tri) : List (List Nat) := (List.range (rowsN (levL l l.length))).map (rowS p l (levL l l.length))
def pickL (l : List Tri) (R : List (List Nat)) : List Tri := R.flatMap fun r => r.map (xAt l)
/-- the sheet of the diagram -/
def sheetD (p : Nat) (l : List Tri) : List Tri := pickL l (rowsS p l)
def sewB : List UInt8 := [115, 101, 119]
def dashB : List UInt8 := [45]
/-- the look of a work -/
def lookB (x : Tri) : List UInt8 := if x.a = 2 then sewB else if x.s.size = 0 then dashB else x.s.data.toList
def hasB (L : List (List UInt8)) (x : List UInt8) : Bool := L.any fun y => decide (y = x)
theorem hasB_iff {L : List (List UInt8)} {x : List UInt8} : hasB L x = true ↔ x ∈ L := by unfold hasB; simp
def idxB (L : List (List UInt8)) (x : List UInt8) : Nat := L.findIdx fun y => decide (y = x)
def addL (L : List (List UInt8)) (x : List UInt8) : List (List UInt8) := if hasB L x = true then L else L ++ [x]
/-- the looks, behind others -/
def looksF (L : List (List UInt8)) (d : List Tri) : List (List UInt8) := d.foldl (fun L x => addL L (lookB x)) L
def looksL (d : List Tri) : List (List UInt8) := looksF [] d
theorem addL_len (L : List (List UInt8)) (x : List UInt8) : L.length ≤ (addL L x).length ∧ (addL L x).length ≤ L.length + 1 := by
  unfold addL; split <;> simp
theorem addL_mem {L : List (List UInt8)} {x y : List UInt8} : y ∈ addL L x ↔ y ∈ L ∨ y = x := by
  unfold addL
  split
  · rename_i h
    exact ⟨.inl, fun h' => h'.elim id (fun e => e ▸ hasB_iff.1 h)⟩
  · simp
theorem addL_nodup {L : List (List UInt8)} (h : L.Nodup) (x : List UInt8) : (addL L x).Nodup := by
  unfold addL
  split
  · exact h
  · rename_i hx
    rw [List.nodup_append]
    exact ⟨h, by simp, fun a ha b hb => by simp at hb; subst hb; exact fun e => hx (hasB_iff.2 (e ▸ ha))⟩
theorem looksF_snoc (L : List (List UInt8)) (d : List Tri) (x : Tri) : looksF L (d ++ [x]) = addL (looksF L d) (lookB x) := by unfold looksF; rw [List.foldl_append]; rfl
theorem looksF_mono : ∀ (d : List Tri) (L : List (List UInt8)), L.length ≤ (looksF L d).length ∧ L <+: looksF L d
  | [], L => ⟨Nat.le_refl _, List.prefix_refl _⟩
  | x :: r, L => by
    obtain ⟨h1, h2⟩ := looksF_mono r (addL L (lookB x))
    have h3 : L <+: addL L (lookB x) := by unfold addL; split; exact List.prefix_refl _; exact List.prefix_append _ _
    exact ⟨Nat.le_trans (addL_len _ _).1 h1, h3.trans h2⟩
theorem looksF_app (L : List (List UInt8)) (d e : List Tri) : looksF L (d ++ e) = looksF (looksF L d) e := by unfold looksF; rw [List.foldl_append]
theorem looksF_nodup : ∀ (d : List Tri) (L : List (List UInt8)), L.Nodup → (looksF L d).Nodup
  | [], L, h => h
  | x :: r, L, h => looksF_nodup r _ (addL_nodup h _)
theorem looksF_mem : ∀ (d : List Tri) (L : List (List UInt8)) (y : List UInt8), y ∈ looksF L d ↔ y ∈ L ∨ ∃ x ∈ d, y = lookB x
  | [], L, y => by simp [looksF]
  | x :: r, L, y => by
    have := looksF_mem r (addL L (lookB x)) y
    show y ∈ looksF (addL L (lookB x)) r ↔ _
    rw [this, addL_mem]
    simp only [List.mem_cons, exists_eq_or_imp, or_assoc]
theorem looksL_le (d : List Tri) (k : Nat) : (looksL (d.take k)).length ≤ (looksL d).length := by
  have : d = d.take k ++ d.drop k := (List.take_append_drop k d).symm
  unfold looksL
  conv => rhs; rw [this]
  rw [looksF_app]
  exact (looksF_mono _ _).1
/-- letters -/
def letN (n : Nat) : UInt8 := if n < 26 then UInt8.ofNat (65 + n) else UInt8.ofNat (71 + n)
def lettersL : List UInt8 := [65, 66, 67, 68, 69, 70, 71, 72, 73, 74, 75, 76, 77, 78, 79, 80, 81, 82, 83, 84, 85, 86, 87, 88, 89, 90, 97, 98, 99, 100, 101, 102, 103, 104, 105, 106, 107, 108, 109, 110, 111, 112, 113, 114, 115, 116, 117, 118, 119, 120, 121, 122]
theorem letters_len : lettersL.length = 52 := by decide
theorem letters_get : ∀ n, n < 52 → lettersL[n]? = some (letN n) := by decide
theorem letN_inj : ∀ m, m < 52 → ∀ n, n < 52 → letN m = letN n → m = n := by decide
theorem letN_nb : ∀ n, n < 52 → letN n ≠ 32 ∧ letN n ≠ 10 ∧ letN n ≠ 124 ∧ letN n ≠ 40 ∧ letN n ≠ 41 ∧ (letN n).toNat < 128 ∧ 33 ≤ (letN n).toNat := by decide
/-- the byte of a row's drawing at q -/
def drawQ (l : List Tri) (L : List (List UInt8)) (r : List Nat) (q : Nat) : UInt8 :=
  match r.find? (fun i => decide (2 * (xAt l i).b ≤ (q : Int)) && decide ((q : Int) ≤ 2 * (xAt l i).b + 2)) with
  | some i => if (q : Int) = 2 * (xAt l i).b then 40 else if (q : Int) = 2 * (xAt l i).b + 1 then letN (idxB L (lookB (xAt l i))) else 41
  | none => if q % 2 = 0 then 124 else 32
def drawR (p : Nat) (l : List Tri) (L : List (List UInt8)) (r : List Nat) : List UInt8 := (List.range (2 * p - 1)).map (drawQ l L r)
def headL (p n : Nat) : List UInt8 := [100, 105, 97, 103, 114, 97, 109, 32] ++ (Lib.itoa p ++ 32 :: Lib.itoa n)
def letL (i : Nat) (x : List UInt8) : List UInt8 := [108, 101, 116, 116, 101, 114, 32] ++ (letN i :: 32 :: x)
/-- the lines of the letters from number i on -/
def letsL (i : Nat) (L : List (List UInt8)) : List (List UInt8) := (List.range L.length).map fun k => letL (i + k) (L.getD k [])
/-- the lines of a diagram -/
def linesD (p : Nat) (l : List Tri) : List (List UInt8) := headL p (rowsS p l).length :: (letsL 0 (looksL (sheetD p l)) ++ (rowsS p l).map (drawR p l (looksL (sheetD p l))))
def joinL (X : List (List UInt8)) : List UInt8 := X.flatMap fun s => s ++ [10]
theorem joinL_snoc (X : List (List UInt8)) (s : List UInt8) : joinL (X ++ [s]) = joinL X ++ (s ++ [10]) := by unfold joinL; simp
theorem joinL_app (X Y : List (List UInt8)) : joinL (X ++ Y) = joinL X ++ joinL Y := by unfold joinL; simp
/-- the text of a diagram -/
def textD (p : Nat) (l : List Tri) : List UInt8 := joinL (linesD p l)

/-- ### reading -/
def threeP (line first : List UInt8) : Option (List UInt8 × List UInt8) :=
  match spl 32 line with
  | [a, b, c] => if a = first then some (b, c) else none
  | _ => none
def dgB : List UInt8 := [100, 105, 97, 103, 114, 97, 109]
def ltB' : List UInt8 := [108, 101, 116, 116, 101, 114]
/-- a look that may be said -/
def sayB (x : List UInt8) : Bool := decide (x = [115, 101, 119]) || decide (x = [45]) || decide (wordE (bN x) = 0)
def lookLn (n : Nat) (s : List UInt8) : Option (List UInt8) :=
  match threeP s ltB' with
  | none => none
  | some (a, x) => if n < 52 ∧ a = [letN n] ∧ x ≠ [] ∧ sayB x = true then some x else none
/-- the looks that are said; what is left; or how many lines are left behind the wrong one -/
def lookP : List (List UInt8) → List (List UInt8) → Except Nat (List (List UInt8) × List (List UInt8))
  | acc, [] => .ok (acc, [])
  | acc, s :: r => if ltB'.isPrefixOf s then (match lookLn acc.length s with | none => .error r.length | some x => lookP (acc ++ [x]) r) else .ok (acc, s :: r)
/-- the work of a look -/
def workD (x : List UInt8) (q : Nat) : Tri := if x = [115, 101, 119] then ⟨2, q, bN []⟩ else if x = [45] then ⟨1, q, bN []⟩ else ⟨1, q, bN x⟩
/-- the works of a row's drawing from place q on (k places are left) -/
def rowW (p : Nat) (K : List (List UInt8)) (s : List UInt8) : Nat → Nat → List Tri → Option (List Tri)
  | 0, _, acc => some acc
  | k + 1, q, acc =>
    if p ≤ q then some acc else
    if 0 < q ∧ s.getD (2 * q - 1) 0 ≠ 32 then none else
    if s.getD (2 * q) 0 = 124 then rowW p K s k (q + 1) acc else
    if s.getD (2 * q) 0 ≠ 40 ∨ q + 1 = p ∨ s.getD (2 * q + 2) 0 ≠ 41 then none else
    match (lettersL.take K.length).findIdx? (· == s.getD (2 * q + 1) 0) with
    | none => none
    | some n => rowW p K s k (q + 2) (acc ++ [workD (K.getD n []) q])
def rowP (p : Nat) (K : List (List UInt8)) (s : List UInt8) : Option (List Tri) := if s.length = 2 * p - 1 then rowW p K s p 0 [] else none
/-- the rows: works and what is left; or how many lines are left behind the wrong one; a missing one: none -/
def rowsP (p : Nat) (K : List (List UInt8)) : Nat → List Tri → List (List UInt8) → Except (Option Nat) (List Tri × List (List UInt8))
  | 0, acc, r => .ok (acc, r)
  | n + 1, acc, [] => .error none
  | n + 1, acc, s :: r => match rowP p K s with
    | none => .error (some r.length)
    | some ws => rowsP p K n (acc ++ ws) r
/-- what the lines say: pairs and works; or the number of the wrong line -/
def readD (X : List (List UInt8)) : Except Nat (Nat × List Tri) :=
  match X with
  | [] => .error 1
  | s :: r => match threeP s dgB with
    | none => .error 1
    | some (a, b) => if (intW a 2 24).2 ≠ 0 ∨ (intW b 0 400).2 ≠ 0 then .error 1 else
      match lookP [] r with
      | .error k => .error (X.length - k)
      | .ok (K, r2) => match rowsP (intW a 2 24).1.toNat K (intW b 0 400).1.toNat [] r2 with
        | .error none => .error (X.length + 1)
        | .error (some k) => .error (X.length - k)
        | .ok (d, []) => .ok ((intW a 2 24).1.toNat, d)
        | .ok (_, _ :: r3) => .error (X.length - r3.length)
end Go.Proofs.YtoccplfnjammjaaGreatDoor
