/- A region that draws its order, within a round of a range over a function: what holds of it outside a round holds there. -/
import Derived.Test.YtohcmfobnkaaiaaGreatDoorOldA
import Derived.RangeFuncNested
set_option linter.unusedSimpArgs false
set_option linter.unusedVariables false
namespace Tor
open Go Go.RowKit

section
variable {P : Program} {ops : Array Oper} {Q : Exit → Act → World → Prop} {lp n : Nat}

theorem rowsIn_round {row : String} {args : Array Value} {w : World} {R : Value → World → Prop} (h : Rows P row args w R) : RowsIn (Fence.wide.inRound lp) n P row args w R :=
  fun c cs _ => let ⟨v, w', r, s⟩ := h c cs; ⟨v, w', r, stepsIn_wide.2 s⟩

theorem upon_round {o : Oper} {a : Act} {K : Act → World → Prop} (hno : ∀ c, o.op ≠ .defer c) : ∀ r, o.upon P a K Q r → o.uponIn (Fence.wide.inRound lp) n P a K Q r := fun r h => by
  cases r with
  | ok x w' =>
    cases x <;> simp only [Oper.upon, Oper.uponIn] at h ⊢ <;> first | exact h | skip
    · exact ⟨fun h => (by cases h), CallsIn.inRound lp (callsIn_wide.2 h)⟩
    · exact ⟨fun h => (by cases h), rowsIn_round h⟩
  | halt x w' => cases x <;> simp only [Oper.upon, Oper.uponIn] at h ⊢ <;> exact h

theorem wpOps_round (hno : ∀ (i : Nat) (o : Oper), ops[i]? = some o → ∀ c, o.op ≠ .defer c) (hlo : ¬ LetsOut Q) : ∀ (is : List Nat) (a : Act) (w : World), wpOps P ops Q is a w → wpOpsIn (Fence.wide.inRound lp) n P ops Q is a w
  | [], a, w, h => h
  | i :: rest, a, w, h => by
    unfold wpOps at h
    unfold wpOpsIn
    cases ho : ops[i]? with
    | none =>
      simp only [ho] at h ⊢
      exact wpOps_round hno hlo rest a w h
    | some o =>
      simp only [ho] at h ⊢
      by_cases hw : Region.wanted o (yielded ops a.tmps) = true
      · rw [if_pos hw] at h ⊢
        rcases h with h | ⟨_, h⟩
        · refine ⟨fun _ _ => trivial, ?_⟩
          rw [show (Fence.wide.inRound lp).round = some lp from rfl, Oper.semAt_some lp _ _ (hno i o ho)]
          exact upon_round (hno i o ho) _ (Oper.wp_mono (fun a w h => wpOps_round hno hlo rest a w h) h)
        · exact absurd h hlo
      · rw [if_neg hw] at h ⊢
        exact ⟨fun _ _ => trivial, wpOps_round hno hlo rest _ w h⟩

def noDefer (ops : Array Oper) : Bool := ops.toList.all fun o => match o.op with
  | .defer _ => false
  | _ => true
theorem noDefer_spec (h : noDefer ops = true) (i : Nat) (o : Oper) (hi : ops[i]? = some o) (c : Call) : o.op ≠ .defer c := fun he => by
  unfold noDefer at h
  rw [List.all_eq_true] at h
  obtain ⟨hlt, he2⟩ := Array.getElem?_eq_some_iff.1 hi
  have := h o (by rw [← he2]; exact Array.getElem_mem_toList hlt)
  rw [he] at this
  cases this

theorem region_round {id : Nat} {a : Act} {w : World} (hm : P.follows .mixedOrders = true) (hd : noDefer ops = true) (hlo : ¬ LetsOut Q)
    (h : wpAny P .any ops Q ops.size (Array.replicate ops.size false) a w.drew) : (Code.region id ops true).wpIn (Fence.wide.inRound lp) n P Q a w :=
  wpIn_region_draw fun t => by
    simp only [Region.schedule, hm, Bool.true_or, if_true]
    exact wpOps_round (noDefer_spec hd) hlo _ a _ (wpAny_sound ops.size t _ a _ h)
/-- what is asked where nothing panics -/
def onlyN (Q : Exit → Act → World → Prop) : Exit → Act → World → Prop
  | .normal, a, w => Q .normal a w
  | _, _, _ => False
theorem onlyN_lets : ¬ LetsOut (onlyN Q) := fun ⟨_, _, h⟩ => h
theorem onlyN_of {e : Exit} {a : Act} {w : World} (h : onlyN Q e a w) : Q e a w := by cases e <;> first | exact h | exact h.elim
/-- operations that only read -/
theorem region_round_quiet {id : Nat} {a : Act} {w : World} {l : List Oper} (hm : P.follows .mixedOrders = true) (hd : noDefer l.toArray = true) (hB : Region.lexB .any l.toArray = true)
    (h : wpQuiet P l.toArray (fun w' => ∃ n, w' = w.drewN n) (fun a' => ∀ w', (∃ n, w' = w.drewN n) → Q .normal a' w') l a) : (Code.region id l.toArray true).wpIn (Fence.wide.inRound lp) n P Q a w := by
  refine wpIn_mono (region_round hm hd onlyN_lets ?_) (fun _ _ _ h => onlyN_of h)
  simp only [Region.lexB, Bool.and_eq_true] at hB
  refine wpAny_of_quiet (C := fun w' => ∃ n, w' = w.drewN n) (Q := fun a' => ∀ w', (∃ n, w' = w.drewN n) → Q .normal a' w') (Q' := onlyN Q) (fun _ w' hw' h => h w' hw') _ _ _ _ ⟨1, rfl⟩ ?_
  have := wpAnyQ_lex (C := fun w' => ∃ n, w' = w.drewN n) (md := .any) hB.1 l 0 (Array.replicate l.toArray.size false) a (by simp) (by simpa using hB.2) h
  simpa using this
/-- operations whose stores come late -/
theorem region_round_J (S1 S2 : World → Prop) (J : Nat → Bool) {id : Nat} {a : Act} {w : World} (hm : P.follows .mixedOrders = true) (hd : noDefer ops = true)
    (h : wpAnyJ P .any ops (onlyN Q) S1 S2 J ops.size (Array.replicate ops.size false) a w.drew) : (Code.region id ops true).wpIn (Fence.wide.inRound lp) n P Q a w :=
  wpIn_mono (region_round hm hd onlyN_lets (wpAny_of_J _ _ _ _ h)) (fun _ _ _ h => onlyN_of h)
theorem region_wide_J (S1 S2 : World → Prop) (J : Nat → Bool) {id : Nat} {a : Act} {w : World} (hm : P.follows .mixedOrders = true)
    (h : wpAnyJ P .any ops (onlyN Q) S1 S2 J ops.size (Array.replicate ops.size false) a w.drew) : (Code.region id ops true).wpIn Fence.wide n P Q a w :=
  wpIn_mono (wpIn_wide.2 (wp_region_any hm (wpAny_of_J _ _ _ _ h))) (fun _ _ _ h => onlyN_of h)
theorem onlyN_in {a : Act} {w : World} (h : Q .normal a w) : onlyN Q .normal a w := h
end
end Tor
