/- A region that draws its order, of which a few last operations (stores) change what the loads read: the loads may be taken first if those last operations wait for them. -/
import Derived.Deep.RegionHeld3
namespace Tor
open Go

/-- whatever order is picked; behind each operation of J the condition S is shown -/
def wpAnyJ (P : Program) (md : Region.Mode) (ops : Array Oper) (Q : Exit → Act → World → Prop) (S1 S2 : World → Prop) (J : Nat → Bool) : Nat → Array Bool → Act → World → Prop
  | 0, listed, a, w => Region.ready md ops listed = [] ∧ Q .normal a w
  | fuel + 1, listed, a, w =>
    (Region.ready md ops listed = [] → Q .normal a w) ∧
    ∀ i ∈ Region.ready md ops listed, wpOp P ops Q i (fun a' w' => S1 w' ∧ (J i = true → S2 w') ∧ wpAnyJ P md ops Q S1 S2 J fuel (listed.setIfInBounds i true) a' w') a w

section
variable {P : Program} {ops : Array Oper} {Q : Exit → Act → World → Prop} {md : Region.Mode} {S1 S2 T : World → Prop} {J : Nat → Bool}

theorem wpAny_of_J : ∀ (fuel : Nat) (listed : Array Bool) (a : Act) (w : World), wpAnyJ P md ops Q S1 S2 J fuel listed a w → wpAny P md ops Q fuel listed a w
  | 0, _, _, _, h => h
  | fuel + 1, _, _, _, h => ⟨h.1, fun i hi => wpOp_mono (fun a' w' h' => wpAny_of_J fuel _ a' w' h'.2.2) (h.2 i hi)⟩


/-- who is not in J waits for i -/
def waitsJ (md : Region.Mode) (ops : Array Oper) (listed : Array Bool) (J : Nat → Bool) (i : Nat) : Bool :=
  (List.range ops.size).all fun j => j == i || listed.getD j true || J j || (match ops[j]? with
    | some oj => oj.after.any fun e => Region.binds md e && e.on == i
    | none => true)

theorem wpAnyJ_first {i : Nat} {oi : Oper} {v : Value} (hi : ops[i]? = some oi) (hsel : ∀ (j : Nat) (o : Oper) cs b, ops[j]? = some o → o.op ≠ .select cs b)
    (hQ : ∀ c a w, Q (.panic c) (a.put oi.dst v) w → Q (.panic c) a w) :
    ∀ (fuel : Nat) (listed : Array Bool) (a : Act) (w : World),
      (∀ j oj, ops[j]? = some oj → j ≠ i → listed.getD j true = false → (∀ e ∈ oj.after, Region.binds md e = true → e.on ≠ i) → oi.apart ops oj = true) →
      (∀ j oj, ops[j]? = some oj → j ≠ i → listed.getD j true = false → (∀ e ∈ oj.after, Region.binds md e = true → e.on ≠ i) → (J i = true → J j = true) ∧ ∀ w, S1 w → (J j = true → S2 w) → T w) →
      i ∈ Region.ready md ops listed → YieldsIf P ops T oi v a → S1 w → (J i = true → S2 w) → T w →
      wpAnyJ P md ops Q S1 S2 J fuel (listed.setIfInBounds i true) (a.put oi.dst v) w → wpAnyJ P md ops Q S1 S2 J (fuel + 1) listed a w := by
  intro fuel
  induction fuel with
  | zero =>
    intro listed a w _ _ hr hy h1 h2 hS H
    refine ⟨fun h => (by rw [h] at hr; cases hr), fun j hj => ?_⟩
    by_cases hji : j = i
    · subst hji; exact hy.wpOp hi hS ⟨h1, h2, H⟩
    · have := ready_mono hj hji
      rw [H.1] at this
      cases this
  | succ fuel ih =>
    intro listed a w hfree hwt hr hy g1 g2 hS H
    refine ⟨fun h => (by rw [h] at hr; cases hr), fun j hj => ?_⟩
    by_cases hji : j = i
    · subst hji; exact hy.wpOp hi hS ⟨g1, g2, H⟩
    · have h1 := H.2 j (ready_mono hj hji)
      obtain ⟨hjun, oj, hoj, hall⟩ := mem_ready.1 hj
      have hnot : ∀ e ∈ oj.after, Region.binds md e = true → e.on ≠ i := fun e he hb heq => by
        have h1 := hall e he hb
        have h0 := (mem_ready.1 hr).1
        rw [heq] at h1
        rcases Nat.lt_or_ge i listed.size with h' | h'
        · simp [h'] at h0 h1; rw [h0] at h1; cases h1
        · simp [Array.getElem?_eq_none h'] at h1
      have h2 := wpOp_putIf (S := T) hoj (hfree j oj hoj hji hjun hnot) (fun cs b => hsel i oi cs b hi) (fun cs b => hsel j oj cs b hoj) hQ hy h1
      have hfree' : ∀ k ok, ops[k]? = some ok → k ≠ i → (listed.setIfInBounds j true).getD k true = false →
          (∀ e ∈ ok.after, Region.binds md e = true → e.on ≠ i) → oi.apart ops ok = true := fun k ok hk hki hun hno => by
        refine hfree k ok hk hki ?_ hno
        by_cases hjk : j = k
        · subst hjk; exact hjun
        · rw [getD_set_ne true hjk] at hun; exact hun
      have hwt' : ∀ k ok, ops[k]? = some ok → k ≠ i → (listed.setIfInBounds j true).getD k true = false →
          (∀ e ∈ ok.after, Region.binds md e = true → e.on ≠ i) → (J i = true → J k = true) ∧ ∀ w, S1 w → (J k = true → S2 w) → T w := fun k ok hk hki hun hno => by
        refine hwt k ok hk hki ?_ hno
        by_cases hjk : j = k
        · subst hjk; exact hjun
        · rw [getD_set_ne true hjk] at hun; exact hun
      obtain ⟨j1, j2⟩ := hwt j oj hoj hji hjun hnot
      refine wpOp_mono (fun a' w' h3 => ⟨h3.2.1, h3.2.2.1, ih (listed.setIfInBounds j true) a' w' hfree' hwt' (ready_mono hr (Ne.symm hji)) h3.1 h3.2.1 (fun hi => h3.2.2.1 (j1 hi)) (j2 w' h3.2.1 h3.2.2.1) ?_⟩) h2
      rw [Array.setIfInBounds_comm _ _ hji]
      exact h3.2.2.2


/-- an operation that yields wherever S1 holds -/
theorem wpAnyJ_take1 (i : Nat) {oi : Oper} {v : Value} {fuel : Nat} {listed : Array Bool} {a : Act} {w : World} (hi : ops[i]? = some oi)
    (hs : Region.noSelect ops = true) (hf : Region.free md ops listed i = true) (hJ : J i = false) (hr : (Region.ready md ops listed).contains i = true)
    (hQ : ∀ c a w, Q (.panic c) (a.put oi.dst v) w → Q (.panic c) a w) (hwant : Region.wanted oi (yielded ops a.tmps) = true) (hS : S1 w) (hy : ∀ w, S1 w → (execOp a.eval oi).run P w = .ok (.value v) w)
    (h : wpAnyJ P md ops Q S1 S2 J fuel (listed.setIfInBounds i true) (a.put oi.dst v) w) : wpAnyJ P md ops Q S1 S2 J (fuel + 1) listed a w :=
  wpAnyJ_first (T := S1) hi (Region.noSelect_spec hs) hQ fuel listed a w (Region.free_spec hi hf) (fun _ _ _ _ _ _ => ⟨fun h => (by rw [hJ] at h; cases h), fun _ h _ => h⟩) (by simpa using hr) (Or.inl ⟨hwant, hy⟩) hS (fun h => (by rw [hJ] at h; cases h)) hS h

theorem waitsJ_spec {listed : Array Bool} {i : Nat} (hwt : waitsJ md ops listed J i = true) : ∀ j oj, ops[j]? = some oj → j ≠ i → listed.getD j true = false → (∀ e ∈ oj.after, Region.binds md e = true → e.on ≠ i) → J j = true := fun j oj hoj hji hjun hnot => by
  have hjs : j < ops.size := (Array.getElem?_eq_some_iff.1 hoj).1
  unfold waitsJ at hwt
  rw [List.all_eq_true] at hwt
  have := hwt j (by simpa using hjs)
  simp only [hoj, Bool.or_eq_true, beq_iff_eq, hji, hjun, Array.any_eq_true'] at this
  rcases this with ((h1 | h1) | h1) | ⟨e, he, h1⟩
  · exact h1.elim
  · cases h1
  · exact h1
  · simp only [Bool.and_eq_true, beq_iff_eq] at h1
    exact absurd h1.2 (hnot e he h1.1)


/-- an operation that yields wherever S1 and S2 hold, for which whoever is not in J waits -/
theorem wpAnyJ_take2 (i : Nat) {oi : Oper} {v : Value} {fuel : Nat} {listed : Array Bool} {a : Act} {w : World} (hi : ops[i]? = some oi)
    (hs : Region.noSelect ops = true) (hf : Region.free md ops listed i = true) (hJ : waitsJ md ops listed J i = true) (hr : (Region.ready md ops listed).contains i = true)
    (hQ : ∀ c a w, Q (.panic c) (a.put oi.dst v) w → Q (.panic c) a w) (hwant : Region.wanted oi (yielded ops a.tmps) = true) (hS : S1 w) (hS2 : S2 w) (hy : ∀ w, S1 w ∧ S2 w → (execOp a.eval oi).run P w = .ok (.value v) w)
    (h : wpAnyJ P md ops Q S1 S2 J fuel (listed.setIfInBounds i true) (a.put oi.dst v) w) : wpAnyJ P md ops Q S1 S2 J (fuel + 1) listed a w :=
  wpAnyJ_first (T := fun w => S1 w ∧ S2 w) hi (Region.noSelect_spec hs) hQ fuel listed a w (Region.free_spec hi hf)
    (fun j oj h1 h2 h3 h4 => have hj := waitsJ_spec hJ j oj h1 h2 h3 h4; ⟨fun _ => hj, fun _ g1 g2 => ⟨g1, g2 hj⟩⟩) (by simpa using hr) (Or.inl ⟨hwant, hy⟩) hS (fun _ => hS2) ⟨hS, hS2⟩ h


/-- the operations of a list come up next, each followed by the rest -/
def NextJ (P : Program) (md : Region.Mode) (ops : Array Oper) (Q : Exit → Act → World → Prop) (S1 S2 : World → Prop) (J : Nat → Bool) (fuel : Nat) (listed : Array Bool) (a : Act) (w : World) (rs : List Nat) : Prop :=
  ∀ i ∈ rs, wpOp P ops Q i (fun a' w' => S1 w' ∧ (J i = true → S2 w') ∧ wpAnyJ P md ops Q S1 S2 J fuel (listed.setIfInBounds i true) a' w') a w
theorem NextJ.nil {fuel : Nat} {listed : Array Bool} {a : Act} {w : World} : NextJ P md ops Q S1 S2 J fuel listed a w [] := fun _ h => by cases h
theorem NextJ.cons {fuel : Nat} {listed : Array Bool} {a : Act} {w : World} {i : Nat} {o : Oper} {rs : List Nat} (ho : ops[i]? = some o)
    (h : ∀ K' : Act → World → Prop, Shut (∀ a w, S1 w → (J i = true → S2 w) → wpAnyJ P md ops Q S1 S2 J fuel (listed.setIfInBounds i true) a w → K' a w) → if Region.wanted o (yielded ops a.tmps) = true then Oper.wp P o a w K' Q else K' (a.put o.dst undef) w)
    (hs : NextJ P md ops Q S1 S2 J fuel listed a w rs) : NextJ P md ops Q S1 S2 J fuel listed a w (i :: rs) := fun j hj => by
  rcases List.mem_cons.1 hj with rfl | hj
  · exact wpOp_step ho (fun K' hK => h K' (fun a w hS h2 hW => hK a w ⟨hS, h2, hW⟩))
  · exact hs j hj
theorem wpAnyJ_ready (rs : List Nat) {fuel : Nat} {listed : Array Bool} {a : Act} {w : World} (hr : Region.ready md ops listed = rs) (hne : rs ≠ [])
    (h : NextJ P md ops Q S1 S2 J fuel listed a w rs) : wpAnyJ P md ops Q S1 S2 J (fuel + 1) listed a w :=
  ⟨fun h0 => absurd (hr ▸ h0) hne, hr ▸ h⟩
theorem wpAnyJ_done {listed : Array Bool} {a : Act} {w : World} (hr : Region.ready md ops listed = []) (h : Q .normal a w) : ∀ fuel, wpAnyJ P md ops Q S1 S2 J fuel listed a w
  | 0 => ⟨hr, h⟩
  | _ + 1 => ⟨fun _ => h, by rw [hr]; simp⟩
theorem wp_region_J (S1 S2 : World → Prop) (J : Nat → Bool) {id : Nat} {a : Act} {w : World} (hm : P.follows .mixedOrders = true)
    (h : wpAnyJ P .any ops Q S1 S2 J ops.size (Array.replicate ops.size false) a w.drew) : (Code.region id ops true).wp P Q a w :=
  wp_region_any hm (wpAny_of_J _ _ _ _ h)
end
end Tor
