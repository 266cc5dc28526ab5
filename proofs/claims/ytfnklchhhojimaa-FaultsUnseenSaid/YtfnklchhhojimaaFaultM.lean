/- Plain: faults, and what they make of instructions. -/
import Derived.Test.YtfnklchhhojimaaTraceM
import Derived.Test.YtfnklchhhojimaaStitchM
set_option linter.unusedSimpArgs false
set_option linter.unusedVariables false
namespace Go.Proofs.Ytfnklchhhojimaa
open Go Go.RowKit Tor

structure Flt where
  k : Int
  st : Int
  lt : Int
  wi : Int
deriving DecidableEq

def faultLetters : List Int := [67, 76, 80, 82, 84, 99, 108, 114, 116]

/-- has the fault the fields of its kind? -/
def shapedF (f : Flt) : Bool :=
  if f.k = 1 ∨ f.k = 3 then decide (f.wi = 0)
  else if f.k = 2 then decide (f.wi ∈ faultLetters)
  else if f.k = 4 ∨ f.k = 6 then decide (f.lt = 0 ∧ f.wi = 0)
  else if f.k = 5 then decide (f.lt = 0 ∧ (f.wi = 1 ∨ f.wi = -1))
  else false

/-- is there a step that is a stitch or a sewing? -/
def workF (l : List Tri) (i : Int) : Bool := decide (0 ≤ i) && decide (i < l.length) && decide ((xAt l i.toNat).a ≠ 1)
def byteAt (s : ByteArray) (k : Int) : UInt8 := s.data.toList.getD k.toNat 0

/-- is there such a step and such a letter? -/
def fitsF (l : List Tri) (f : Flt) : Bool :=
  workF l f.st &&
    (if f.k = 1 then decide (0 ≤ f.lt ∧ f.lt < (xAt l f.st.toNat).s.size)
    else if f.k = 3 then decide (0 ≤ f.lt ∧ f.lt < (xAt l f.st.toNat).s.size) && decide (byteAt (xAt l f.st.toNat).s f.lt ≠ 80)
    else if f.k = 2 then decide ((xAt l f.st.toNat).a = 2) && decide (0 ≤ f.lt ∧ f.lt ≤ (xAt l f.st.toNat).s.size)
    else if f.k = 6 then workF l (f.st + 1)
    else true)

/-- a word in which letters are taken out and others put in -/
def cutW (s : ByteArray) (k g : Nat) (x : ByteArray) : ByteArray := s.extract 0 k ++ x ++ s.extract (k + g) s.size
def setW (l : List Tri) (i : Nat) (s : ByteArray) : List Tri := l.set i ⟨(xAt l i).a, (xAt l i).b, s⟩

/-- the instructions with a fault -/
def putF (l : List Tri) (f : Flt) : List Tri :=
  let i := f.st.toNat
  let x := xAt l i
  if f.k = 1 then setW l i (cutW x.s f.lt.toNat 1 .empty)
  else if f.k = 2 then setW l i (cutW x.s f.lt.toNat 0 ⟨#[f.wi.toNat.toUInt8]⟩)
  else if f.k = 3 then setW l i (cutW x.s f.lt.toNat 1 ⟨#[undo (byteAt x.s f.lt)]⟩)
  else if f.k = 5 then l.set i ⟨x.a, x.b + f.wi, x.s⟩
  else if f.k = 6 then (l.set i (xAt l (i + 1))).set (i + 1) x
  else l.eraseIdx i

/-- Put of instructions that are valid -/
def accF (p s : Int) (l : List Tri) (f : Flt) : List Tri × Int :=
  if shapedF f = false then ([], 2)
  else if fitsF l f = false then ([], 4)
  else if f.k = 2 ∧ (xAt l f.st.toNat).s.size = 16 then ([], 3)
  else if (sheetR p s (putF l f)).2.2.2 ≠ 0 then ([], 9)
  else (putF l f, 0)

/-- Put -/
def putR (p s : Int) (l : List Tri) (f : Flt) : List Tri × Int :=
  if (sheetR p s l).2.2.2 ≠ 0 then ([], (sheetR p s l).2.2.2) else accF p s l f


/-- a word, reduced -/
def redW (s : ByteArray) : ByteArray := ⟨(writeAll (sylOf s.data.toList)).toArray⟩

/-- a sheet's works with their words reduced, those without letters left out -/
def plainL (l : List Tri) : List Tri := (l.map fun x => (⟨x.a, x.b, redW x.s⟩ : Tri)).filter fun x => decide (x.s.size ≠ 0 ∨ x.a = 2)

/-- does what two lists of instructions make look alike? -/
def alikeR (p s : Int) (l m : List Tri) : Bool := traceB (sheetR p s l).1 (plainL (sheetR p s l).2.1) (sheetR p s m).1 (plainL (sheetR p s m).2.1)
def seenR (p s : Int) (l : List Tri) (f : Flt) : Bool × Int :=
  if (putR p s l f).2 ≠ 0 then (false, (putR p s l f).2) else (!alikeR p s l (putR p s l f).1, 0)
def sameR (p s : Int) (l : List Tri) (f g : Flt) : Bool × Int :=
  if (putR p s l f).2 ≠ 0 then (false, (putR p s l f).2) else if (putR p s l g).2 ≠ 0 then (false, (putR p s l g).2) else (alikeR p s (putR p s l f).1 (putR p s l g).1, 0)

theorem fits_step {l : List Tri} {f : Flt} (h : fitsF l f = true) : 0 ≤ f.st ∧ f.st.toNat < l.length ∧ (xAt l f.st.toNat).a ≠ 1 := by
  unfold fitsF workF at h
  simp only [Bool.and_eq_true, decide_eq_true_eq] at h
  omega
end Go.Proofs.Ytfnklchhhojimaa
