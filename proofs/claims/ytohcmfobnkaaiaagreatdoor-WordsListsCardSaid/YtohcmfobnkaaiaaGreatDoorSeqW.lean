/- A range over a function whose iterator writes a variable of its own between two rounds. -/
import Derived.Test.YtohcmfobnkaaiaaGreatDoorOldA
import Derived.RangeFuncNested
import Derived.RangeFuncBound
import Derived.RangeFuncCalls
import Derived.RangeFuncLeaves
import Derived.RangeFuncBox
import Derived.Shelf.Abstract
import Derived.Shelf.RegionOpen
import Derived.WalkKit
import Derived.OwnWalkIn
import Derived.TacticsInMore
import Derived.LoopNIn
import Derived.LoopIn
set_option linter.unusedSimpArgs false
set_option linter.unusedVariables false
namespace Go.Proofs.YtohcmfobnkaaiaaGreatDoor
open Go Go.RowKit

variable {F : Fence} {n : Nat} {P : Program}

/-- what is kept when the block wb is written, or a walk that lies at B or behind it is turned -/
def AbW {β : Type} (wb : Option Nat) (B : Nat) (J : β → World → Prop) : Prop :=
  ∀ s X Y row, J s X → X.grownBy Y row → (∀ r, row = some r → some r = wb ∨ (B ≤ r ∧ ∃ o : Obj, X.heap[r]? = some o ∧ o.isWalk = true)) → J s Y
/-- the caller's side: whatever is no cells and lies at B or behind it may be turned, and wb may be written -/
def OwW {β : Type} (wb : Option Nat) (B : Nat) (I : β → World → Prop) : Prop :=
  ∀ s X Y row, I s X → X.grownBy Y row → (∀ r, row = some r → some r = wb ∨ (B ≤ r ∧ ∃ o : Obj, X.heap[r]? = some o ∧ o.isCells = false)) → I s Y
theorem OwW.put {β : Type} {wb : Option Nat} {B : Nat} {I : β → World → Prop} (h : OwW wb B I) {s : β} {W : World} {l : Nat} {o : Obj} (o' : Obj) (hs : I s W) (hB : B ≤ l) (hl : W.heap[l]? = some o) (ho : o.isCells = false) : I s (W.putObj l o') :=
  h s W _ (some l) hs (grownBy_putObj' W l o') (fun r e => by cases e; exact .inr ⟨hB, o, hl, ho⟩)
theorem OwW.new {β : Type} {wb : Option Nat} {B : Nat} {I : β → World → Prop} (h : OwW wb B I) {s : β} {W : World} (o : Obj) (hs : I s W) : I s (W.alloc o) :=
  h s W _ none hs (World.grownBy_alloc W o none) (fun r e => by cases e)

/-- the iterator's contract -/
def SeqW {α : Type} (F : Fence) (n : Nat) (P : Program) (g : Nat) (lb : Array Value) (encs : α → Array Value) (Kp : World → World → Prop) (T S Sp : List α → Prop) (wb : Option Nat) (w : World) : Prop :=
  ∀ (l : Nat) (J Jx : List α → World → Prop) (W : World), Below w.heap.size w W → AbW wb W.heap.size J → AbW wb W.heap.size Jx →
    (∀ pre x W1, J pre W1 → T pre → YieldAt F (n - 1) P l (encs x) W1 fun e W' =>
      (e = .returned (.bool true) ∧ J (pre ++ [x]) W' ∧ Kp W1 W') ∨ (e = .returned (.bool false) ∧ Jx (pre ++ [x]) W')) →
    J [] W →
    CallsIn F n P g (#[.func (.yield l) #[] #[]] ++ lb) W fun e W' => (∃ v, e = .returned v) ∧ ((∃ xs, S xs ∧ J xs W') ∨ (∃ pre, Sp pre ∧ Jx pre W'))

theorem kept_at {X Y : World} {row : Option Nat} {k : Nat} {o : Obj} (hg : X.grownBy Y row) (hk : X.heap[k]? = some o) (hne : row ≠ some k) : Y.heap[k]? = some o :=
  (hg.block k (Array.getElem?_eq_some_iff.1 hk).1 (fun e => hne e.symm)).trans hk

theorem rangeFunc_w {α : Type} {g : Operand} {ps : Array Tmp} {assign body : Code} {Q : Exit → Act → World → Prop} {a : Act} {w : World} (wb : Option Nat) (hwb : ∀ r, wb = some r → r < w.heap.size)
    (hro : F.round = none) (h1 : 1 ≤ n) {gf : Nat} {lb : Array Value} (hg : a.eval g = .func (.func gf) #[] lb) (hFg : F.fn gf) (eg : ∀ args w, (callFunc gf args).run P w = .ok (.enter gf args) w)
    {encs : α → Array Value} {Kp : World → World → Prop} {T S Sp : List α → Prop} (hseq : SeqW F (n - 1) P gf lb encs Kp T S Sp wb w)
    (hKt : ∀ {A B C : World}, Kp A B → Kp B C → Kp A C) (hKb : ∀ (W : World) (l : Nat) (o o' : Obj), w.heap.size ≤ l → W.heap[l]? = some o → o.isCells = false → o.isWalk = false → Kp W (W.putObj l o')) (hps : ∀ x, (encs x).size = ps.size)
    (I : List α → World → Prop) (Ix : Code → List α → World → Prop) (hI : OwW wb w.heap.size I) (hIx : ∀ c, OwW wb w.heap.size (Ix c)) (h0 : I [] w) (Ax : α → Act → World → Prop) (hAx : ∀ x a', OwW wb w.heap.size (fun (_ : Unit) W => Ax x a' W))
    (hassign : ∀ (l : Nat) (pre : List α) (x : α) (W : World) (K : Act → World → Prop), I pre W → (∀ a' W', KeepsFrom w.heap.size W W' → Kp W W' → I pre W' → Ax x a' W' → K a' W') →
      assign.wpIn (F.inRound l) (n - 1 - 1) P (Exit.then K (fun _ _ _ => False)) { tmps := (ps.zip (encs x)).foldl (fun t (p, v) => t.setIfInBounds p v) a.tmps, defers := [] } W)
    (hbody : ∀ (l : Nat) (pre : List α) (x : α) (a' : Act) (W : World), w.heap.size ≤ l → I pre W → Ax x a' W → T pre → body.wpIn (F.inRound l) (n - 1 - 1) P (ownPostG w.heap.size Kp I Ix (pre ++ [x]) W) a' W)
    (hdone : ∀ (D : Nat) (xs : List α) (W : World), w.heap.size ≤ D → S xs → I xs W → W.heap[D]? = some (.deferred (some [])) → Q .normal { a with defers := { target := .collected D, args := #[] } :: a.defers } W)
    (hstop : ∀ (D : Nat) (c : Code) (pre : List α) (W : World), w.heap.size ≤ D → Sp pre → Ix c pre W → W.heap[D]? = some (.deferred (some [])) → c.wpIn F n P Q { a with defers := { target := .collected D, args := #[] } :: a.defers } W) :
    (Code.rangeFunc g ps assign body).wpIn F n P Q a w := by
  refine wpIn_rangeFunc ?_
  intro fn hfn
  rw [hro]
  obtain ⟨D, hD⟩ : ∃ D, D = w.heap.size := ⟨_, rfl⟩
  obtain ⟨rec, hrec⟩ : ∃ rec : LoopState → Option Code → Loop, rec = fun st pe => { state := st, pending := pe, fn, tmps := a.tmps, params := ps, assign, body, defers := w.heap.size } := ⟨_, rfl⟩
  have rs : ∀ st pe, (rec st pe).params.size = ps.size := fun st pe => by rw [hrec]
  -- the book: the loop's record stands at D + 1, the block of the rounds' deferred calls at D
  let Bk : Loop → World → Prop := fun r W => W.heap[D + 1]? = some (.loop r) ∧ W.heap[D]? = some (.deferred (some []))
  have bk : ∀ (r : Loop) (X Y : World) (row : Option Nat), Bk r X → X.grownBy Y row → (∀ j, row = some j → some j = wb ∨ ∃ o : Obj, X.heap[j]? = some o ∧ o.isWalk = true) → Bk r Y := fun r X Y row hb hgr hrow => by
    refine ⟨kept_at hgr hb.1 (fun e => ?_), kept_at hgr hb.2 (fun e => ?_)⟩
    · rcases hrow _ e with h | ⟨o, ho, hw⟩
      · have := hwb _ h.symm; omega
      · rw [hb.1] at ho; cases ho; cases hw
    · rcases hrow _ e with h | ⟨o, ho, hw⟩
      · have := hwb _ h.symm; omega
      · rw [hb.2] at ho; cases ho; cases hw
  have bput : ∀ (r r' : Loop) (W : World), Bk r W → Bk r' (W.putObj (D + 1) (.loop r')) := fun r r' W hb =>
    ⟨World.putObj_heap_same (Array.getElem?_eq_some_iff.1 hb.1).1, (World.putObj_heap_other (by omega)).trans hb.2⟩
  have bkf : ∀ (r : Loop) (W W' : World), Bk r W → KeepsFrom w.heap.size W W' → Bk r W' := fun r W W' hb hk =>
    ⟨hk.same _ _ (by omega) hb.1 rfl, hk.same _ _ (by omega) hb.2 rfl⟩
  obtain ⟨W1, hW1⟩ : ∃ W1, (w.alloc (.deferred (some []))).alloc (.loop (rec .ready none)) = W1 := ⟨_, rfl⟩
  have hb0 : Bk (rec .ready none) W1 := by
    rw [← hW1]
    subst hD
    refine ⟨?_, (Below.heap_alloc _ _ _ (by simp)).trans (World.alloc_heap_new w _)⟩
    have := World.alloc_heap_new (w.alloc (.deferred (some []))) (.loop (rec .ready none))
    rwa [World.size_alloc] at this
  have hI1 : I [] W1 := by rw [← hW1]; exact hI.new _ (hI.new _ h0)
  have hs1 : W1.heap.size = w.heap.size + 2 := by rw [← hW1]; simp
  have hb1 : Below w.heap.size w W1 := by rw [← hW1]; exact ((Below.refl _ w).alloc (Nat.le_refl _) _).alloc (by simp) _
  have low : ∀ {X : World} {row : Option Nat}, (∀ r, row = some r → some r = wb ∨ (W1.heap.size ≤ r ∧ ∃ o : Obj, X.heap[r]? = some o ∧ o.isWalk = true)) → (∀ r, row = some r → some r = wb ∨ (w.heap.size ≤ r ∧ ∃ o : Obj, X.heap[r]? = some o ∧ o.isCells = false)) := fun h r e => by
    rcases h r e with h | ⟨h, o, ho, hw⟩
    · exact .inl h
    · exact .inr ⟨by omega, o, ho, Obj.not_cells_of_walk hw⟩
  have low2 : ∀ {X : World} {row : Option Nat}, (∀ r, row = some r → some r = wb ∨ (W1.heap.size ≤ r ∧ ∃ o : Obj, X.heap[r]? = some o ∧ o.isWalk = true)) → (∀ r, row = some r → some r = wb ∨ ∃ o : Obj, X.heap[r]? = some o ∧ o.isWalk = true) := fun h r e => by
    rcases h r e with h | ⟨_, h⟩
    · exact .inl h
    · exact .inr h
  refine ⟨D + 1, [{ target := .collected w.heap.size, args := #[] }], W1, { target := .fn (.func gf) lb, args := #[.func (.yield (D + 1)) #[] #[]] }, W1, gf, #[.func (.yield (D + 1)) #[] #[]] ++ lb, W1, ?_, ?_, ?_, ?_, fun _ => h1, ?_⟩
  · subst hD; rw [← hW1, hrec]; exact run_enterLoop_outer _ _ _ _ _
  · simp only [resolve, hg]
    simp [go_sem]
  · intro f' hf'; simp [Target.leads] at hf'; subst hf'; exact hFg
  · simp [invoke, go_sem, eg]
  refine (hseq (D + 1) (fun pre W => I pre W ∧ Bk (rec .ready none) W) (fun pre W => ∃ c, Ix c pre W ∧ Bk (rec .done (some c)) W) W1 hb1
    (fun s X Y row hs hgr hr => ⟨hI s X Y row hs.1 hgr (low hr), bk _ X Y row hs.2 hgr (low2 hr)⟩)
    (fun s X Y row ⟨c, hc, hb⟩ hgr hr => ⟨c, hIx c s X Y row hc hgr (low hr), bk _ X Y row hb hgr (low2 hr)⟩) ?_ ⟨hI1, hb0⟩).mono ?_
  · rintro pre x W ⟨hi, hb⟩ hlen
    have hy := run_yield (P := P) (args := encs x) hb.1 ((hps x).trans (rs _ _).symm)
    rw [hrec] at hy
    refine ⟨fn, _, assign, body, hy, roundIn_of_wpIn hfn (hassign _ pre x W _ hi ?_)⟩
    clear hy
    intro a' Wa hkf hkp hia hax
    have hba := bkf _ _ _ hb hkf
    have hDl : w.heap.size ≤ D + 1 := by omega
    refine ⟨_, run_beginRound hba.1 (by rw [hrec]), ?_⟩
    have hb2 := bput _ { rec .ready none with state := .busy } _ hba
    have hkp2 : Kp Wa (Wa.putObj (D + 1) (.loop { rec .ready none with state := .busy })) := hKb _ _ _ _ hDl hba.1 rfl rfl
    refine wpIn_mono (hbody _ pre x a' _ hDl (hI.put _ hia hDl hba.1 rfl) ((hAx x a').put (s := ()) _ hax hDl hba.1 rfl) hlen) ?_
    have fin : ∀ (jump : Option Code) (W3 : World), KeepsFrom w.heap.size (Wa.putObj (D + 1) (.loop { rec .ready none with state := .busy })) W3 →
        (Instr.endRound (D + 1) jump).run P W3 = .ok (.bool jump.isNone) (W3.putObj (D + 1) (.loop (rec (if jump.isNone then .ready else .done) jump))) ∧
        W3.heap[D + 1]? = some (.loop { rec .ready none with state := .busy }) ∧
        Bk (rec (if jump.isNone then .ready else .done) jump) (W3.putObj (D + 1) (.loop (rec (if jump.isNone then .ready else .done) jump))) := fun jump W3 hk3 => by
      have hb3 := bkf _ _ _ hb2 hk3
      have h := run_endRound (P := P) jump hb3.1
      rw [hrec] at h
      exact ⟨by rw [hrec]; exact h, hb3.1, bput _ _ _ hb3⟩
    rintro e a3 W3 hp
    cases e with
    | normal =>
      obtain ⟨hr, hl3, hb4⟩ := fin none W3 hp.1
      exact ⟨_, _, hr, .inl ⟨rfl, ⟨hI.put _ hp.2.2 hDl hl3 rfl, hb4⟩, hKt hkp (hKt (hKt hkp2 hp.2.1) (hKb _ _ _ _ hDl hl3 rfl rfl))⟩⟩
    | ret =>
      obtain ⟨hr, hl3, hb4⟩ := fin (some .ret) W3 hp.1
      exact ⟨_, _, hr, .inr ⟨rfl, .ret, (hIx _).put _ hp.2 hDl hl3 rfl, hb4⟩⟩
    | exit id =>
      obtain ⟨hr, hl3, hb4⟩ := fin (some (.exit id)) W3 hp.1
      exact ⟨_, _, hr, .inr ⟨rfl, .exit id, (hIx _).put _ hp.2 hDl hl3 rfl, hb4⟩⟩
    | goto t =>
      obtain ⟨hr, hl3, hb4⟩ := fin (some (.goto t)) W3 hp.1
      exact ⟨_, _, hr, .inr ⟨rfl, .goto t, (hIx _).put _ hp.2 hDl hl3 rfl, hb4⟩⟩
    | panic ch => exact hp.elim
    | outgrown => exact hp.elim
  · subst hD
    have hDl : w.heap.size ≤ w.heap.size + 1 := by omega
    rintro e W2 ⟨⟨v, rfl⟩, (⟨xs, hS, hi, hb⟩ | ⟨pre, hSp, c, hi, hb⟩)⟩
    · exact ⟨none, _, by have := run_endLoop (P := P) hb.1 (by rw [hrec]; simp); rw [hrec] at this; exact this, hdone _ xs _ (Nat.le_refl _) hS (hI.put _ hi hDl hb.1 rfl) ((World.putObj_heap_other (by omega)).trans hb.2)⟩
    · exact ⟨some c, _, by have := run_endLoop (P := P) hb.1 (by rw [hrec]; simp); rw [hrec] at this; exact this, hstop _ c pre _ (Nat.le_refl _) hSp ((hIx c).put _ hi hDl hb.1 rfl) ((World.putObj_heap_other (by omega)).trans hb.2)⟩
end Go.Proofs.YtohcmfobnkaaiaaGreatDoor
