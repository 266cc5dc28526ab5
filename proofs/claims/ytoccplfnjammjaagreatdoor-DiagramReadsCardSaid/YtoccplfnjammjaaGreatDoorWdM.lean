/- Plain: what the functions of package words compute (lists, quotations, fields). -/
import Derived.Lib.Split
import Derived.Lib.IndexAny
import Derived.Lib.Replace
import Derived.Test.YtoccplfnjammjaaGreatDoorNumM
set_option linter.unusedSimpArgs false
set_option linter.unusedVariables false
namespace Go.Proofs.YtoccplfnjammjaaGreatDoor
open Go

/-- Text -/
def textB (L : List UInt8) : Bool := decide (L.length ≤ 200) && L.all fun c => decide (32 ≤ c.toNat) && decide (c.toNat ≤ 126)
/-- what Quote writes -/
def quoteL (L : List UInt8) : List UInt8 := 34 :: (Lib.replaceAll L [34] [34, 34] ++ [34])
def quoteP (L : List UInt8) : List UInt8 × Int := if textB L then (quoteL L, 0) else ([], 2)
/-- Unquote -/
def midL (L : List UInt8) : List UInt8 := (L.drop 1).take (L.length - 2)
def unqP (L : List UInt8) : List UInt8 × Int :=
  if L.length < 2 ∨ L.head? ≠ some 34 ∨ L.getLast? ≠ some 34 then ([], 6)
  else if quoteP (Lib.replaceAll (midL L) [34, 34] [34]) = (L, 0) then (Lib.replaceAll (midL L) [34, 34] [34], 0) else ([], 6)

/-- natural -/
def natP (s : List UInt8) : Int × Bool :=
  if (intW s 0 1099511627776).2 = 7 ∧ s.head? ≠ some 45 then (1099511627776, true) else ((intW s 0 1099511627776).1, decide ((intW s 0 1099511627776).2 = 0))
/-- numbers from the first to the last, so many times -/
structure Part where
  a : Int
  b : Int
  t : Int
deriving DecidableEq, Inhabited
def ltB (a b : List UInt8) : Bool := decide (a.length < b.length) || (decide (a.length = b.length) && Op.bytesLess a b)
/-- read -/
def readP (s : List UInt8) : Part × Bool :=
  let k := Lib.indexAny s [45, 120]
  if k < 0 then (⟨(natP s).1, (natP s).1, 1⟩, (natP s).2)
  else
    let a := s.take k.toNat
    let b := s.drop (k.toNat + 1)
    if s[k.toNat]? = some 45 then (⟨(natP a).1, (natP b).1, 1⟩, (natP a).2 && ((natP b).2 && ltB a b))
    else (⟨(natP b).1, (natP b).1, (natP a).1⟩, (natP a).2 && ((natP b).2 && decide (2 ≤ (natP a).1)))
/-- how many numbers the parts have: none where they are too many -/
def manyP : Int → List Part → Option Int
  | n, [] => some n
  | n, x :: r => if 500 < n + min x.t 501 * (x.b - x.a + 1) then none else manyP (n + min x.t 501 * (x.b - x.a + 1)) r
def upTo (a b : Int) : List Int := (List.range (b - a + 1).toNat).map fun i : Nat => a + i
def partL (x : Part) : List Int := (List.range x.t.toNat).flatMap fun _ => upTo x.a x.b
/-- ParseList -/
def parseP (s : List UInt8) : List Int × Int :=
  if 2500 < s.length then ([], 3) else if s = [] then ([], 0)
  else
    let ps := (Lib.split s [44]).map readP
    if ps.any (fun x => !x.2) then ([], 6)
    else if ps.any (fun x => decide (9999 < x.1.b)) then ([], 7)
    else if manyP 0 (ps.map (·.1)) = none then ([], 3)
    else (ps.flatMap fun x => partL x.1, 0)

/-- size: how many digits -/
def sizeW (n : Int) : Int := 1 + (if 10 ≤ n then 1 else 0) + (if 100 ≤ n then 1 else 0) + (if 1000 ≤ n then 1 else 0)
/-- the digits of a number from 0 to 99999 -/
def decF : Nat → Nat → List UInt8
  | 0, _ => []
  | f + 1, u => if u < 10 then [UInt8.ofNat (48 + u)] else decF f (u / 10) ++ [UInt8.ofNat (48 + u % 10)]
def digL (n : Int) : List UInt8 := decF 5 n.toNat
theorem decF_eq : ∀ (f u : Nat), u < 10 ^ f → 0 < f → decF f u = Lib.decDigits u
  | 0, _, _, h => by omega
  | f + 1, u, h, _ => by
    rw [Lib.decDigits]
    unfold decF
    by_cases hu : u < 10
    · rw [if_pos hu, dif_pos hu]
    · rw [if_neg hu, dif_neg hu]
      have h2 : u < 10 * 10 ^ f := by rw [Nat.pow_succ] at h; omega
      have h3 : 0 < f := by
        rcases Nat.eq_zero_or_pos f with h4 | h4
        · subst h4; omega
        · exact h4
      rw [decF_eq f (u / 10) (by omega) h3]
theorem digL_eq {n : Int} (h0 : 0 ≤ n) (h1 : n ≤ 99999) : digL n = Lib.itoa n := by
  unfold digL Lib.itoa
  rw [if_neg (by omega), decF_eq 5 _ (by omega) (by omega)]
/-- an item: its text, and how many numbers it has -/
abbrev It := List UInt8 × Nat
def upL (l : List Int) : List Nat := (List.range (l.length - 1)).takeWhile fun j => decide (l.getD (j + 1) 0 = l.headD 0 + (j + 1 : Nat))
def alL (l : List Int) : List Nat := (List.range (l.length - 1)).takeWhile fun j => decide (l.getD (j + 1) 0 = l.headD 0)
def itemsW (l : List Int) : List It :=
  (digL (l.headD 0), 1) :: ((upL l).map (fun j => (digL (l.headD 0) ++ 45 :: digL (l.getD (j + 1) 0), j + 2)) ++
    (alL l).map fun j => (digL ((j + 2 : Nat) : Int) ++ 120 :: digL (l.headD 0), j + 2))
/-- the least of what a list of items costs; c: what the numbers behind cost -/
def stepC (c : List Int) (m : Int) (x : It) : Int := min m ((x.1.length : Int) + 1 + c.getD (x.2 - 1) 0)
def minC (l : List Int) (c : List Int) : Int := (itemsW l).foldl (stepC c) (sizeW (l.headD 0) + 1 + c.headD 0)
def costs : List Int → List Int
  | [] => [0]
  | a :: r => minC (a :: r) (costs r) :: costs r
/-- the item that is taken: the first one among the least texts of those that cost the least -/
def stepI (c : List Int) (b : It) (x : It) : It := if (x.1.length : Int) + 1 + c.getD x.2 0 = c.headD 0 ∧ (b.2 = 0 ∨ Op.bytesLess (x.1 ++ [44]) (b.1 ++ [44]) = true) then x else b
def bestI (l : List Int) : It := (itemsW l).foldl (stepI (costs l)) ([], 0)
def piecesL : Nat → List Int → List (List UInt8)
  | 0, _ => []
  | _ + 1, [] => []
  | f + 1, a :: r => (bestI (a :: r)).1 :: piecesL f ((a :: r).drop (bestI (a :: r)).2)
def joinC : List (List UInt8) → List UInt8
  | [] => []
  | [x] => x
  | x :: y :: r => x ++ 44 :: joinC (y :: r)
/-- List -/
def listP (l : List Int) : List UInt8 × Int :=
  if 500 < l.length then ([], 3) else if l.any (fun n => decide (n < 0) || decide (9999 < n)) then ([], 7) else (joinC (piecesL l.length l), 0)

/-- where the first blank stands that is not within quotations; q: within one -/
def endP : Bool → List UInt8 → Option Nat
  | _, [] => none
  | q, c :: r => if c = 34 then (endP (!q) r).map (· + 1) else if c = 32 ∧ q = false then some 0 else (endP q r).map (· + 1)
/-- what stands between those blanks -/
def piecesG : Nat → List UInt8 → List (List UInt8)
  | 0, s => [s]
  | f + 1, s => match endP false s with
    | none => [s]
    | some k => s.take k :: piecesG f (s.drop (k + 1))
/-- a field -/
structure Fld where
  q : Bool
  s : List UInt8
deriving DecidableEq, Inhabited
def rightF (x : Fld) : Bool :=
  if x.q then textB x.s else decide (x.s ≠ []) && (decide (x.s.length ≤ 200) && ((x.s.all fun c => decide (33 ≤ c.toNat) && decide (c.toNat ≤ 126)) && !x.s.contains 34))
/-- the field that a piece is: none where it is none -/
def fieldP (s : List UInt8) : Option Fld :=
  if s.head? = some 34 then (if (unqP s).2 ≠ 0 then none else if textB (unqP s).1 then some ⟨true, (unqP s).1⟩ else none)
  else if rightF ⟨false, s⟩ then some ⟨false, s⟩ else none
/-- Split -/
def splitP (s : List UInt8) : List Fld × Int :=
  if 4096 < s.length then ([], 3) else if s = [] then ([], 0)
  else
    let fs := (piecesG s.length s).map fieldP
    if fs.any (·.isNone) then ([], 6) else if 64 < fs.length then ([], 3) else (fs.filterMap id, 0)

/-- what is shown -/
theorem shown_list1 : listP [1, 2, 3, 7] = ([49, 45, 51, 44, 55], 0) := by decide
theorem shown_list2 : listP [1, 2, 3, 3, 3] = ([49, 44, 50, 44, 51, 120, 51], 0) := by decide
theorem shown_parse : parseP [53, 45, 55, 44, 50, 120, 57] = ([5, 6, 7, 9, 9], 0) := by decide
theorem shown_quote : quoteP [115, 97, 121, 32, 34, 97, 34] = ([34, 115, 97, 121, 32, 34, 34, 97, 34, 34, 34], 0) := by decide
theorem shown_split : splitP [114, 111, 119, 32, 34, 99, 108, 111, 116, 104, 32, 115, 116, 105, 116, 99, 104, 34, 32, 49] = ([⟨false, [114, 111, 119]⟩, ⟨true, [99, 108, 111, 116, 104, 32, 115, 116, 105, 116, 99, 104]⟩, ⟨false, [49]⟩], 0) := by decide
end Go.Proofs.YtoccplfnjammjaaGreatDoor
