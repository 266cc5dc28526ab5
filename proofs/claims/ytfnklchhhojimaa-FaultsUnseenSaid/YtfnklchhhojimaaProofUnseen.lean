/-
Proved here: FaultsUnseenSaid: for every case (pairs, span, instructions and two faults) the law FaultsUnseen returns true, and the case reads behind the call as it did.
Conditions: none beyond those that the given row prints.
-/
import Derived.Test.YtfnklchhhojimaaLawUnseen
import Derived.Test.YtfnklchhhojimaaOpen25
set_option linter.unusedSimpArgs false
set_option linter.unusedVariables false
namespace Go.Proofs.Ytfnklchhhojimaa.lawUnseen
open Go Go.RowKit Tor Go.WideShapes Go.ChangeShapes Go.ChangeAt Go.Proofs.Ytfnklchhhojimaa

set_option maxRecDepth 100000 in
theorem lifted (os : Os) (started : os.Started) (H : Type) (enc : TypeId × Value → H) :
    ReturnsInHanded {} Try.checked os 3 .any (Rows.faultsUnseenSpec.pre6 enc Try.prog Try.f3 Rows.faultsUnseenRow.domain false) (Rows.faultsUnseenSpec.post enc Try.prog Try.f3 false true false false) := by
  refine returnsInHanded_of_change (C := Try.checked) Go.Proofs.Ytfnklchhhojimaa.own started (by kernel_rfl) Try.func3
    (ChangeSpec.witness6 (enc := enc) (C := Try.checked) false ⟨#[], #[.agg #[.int .i64 0, .int .i64 0, .slice none 0 0, .int .i64 0, .int .i64 0, .int .i64 0, .int .i64 0, .int .i64 0, .int .i64 0, .int .i64 0, .int .i64 0]], []⟩ 8 (by kernel_rfl) (by kernel_rfl) (by kernel_rfl) (by kernel_rfl)) ?_
  intro W base args ds gs before hval hW hcnd _
  have hW' := hW
  obtain ⟨p, q, hA0, hV, rfl, hfz, hnd⟩ := hW
  have hA : DataW.TrodAll enc Try.prog W 0 (fun _ => true) true Try.f3.params.toList args.toList ds p := hA0
  rw [Try.params3] at hA hval
  obtain ⟨v0, d0, rfl, rfl, h0⟩ := trodAll_one hA
  obtain ⟨rfl, rfl⟩ := trodVars_none hV
  obtain ⟨P, S, A, l, c, f, g, rfl, hr, hlc, hc, hs⟩ := open_case (hval 0 26 v0 rfl rfl) h0
  clear hA0
  simp only [List.append_nil] at hW'
  refine (lawUnseen_any P S A l c f g W W.heap.size hr (Nat.le_refl _) hs (Nat.le_trans hlc hc)).mono fun e W' ⟨he, hB⟩ => ?_
  subst he
  have hlt : ∀ x ∈ p, x.block < W.heap.size := fun x hx => hW'.lt x (by simpa using hx)
  refine ⟨_, rfl, post_of_below (pa := p) (pv := []) hW' (fun _ _ _ => ?_) (fun sp hsp => ?_) (fun _ _ => rfl) (by simp) hB (ok_one (by kernel_rfl) rfl (okWide_bool_mk Try.underlying4 _))⟩
  · exact trodAll_mk1 (shut_bool Try.underlying4 _)
  · have hk := WideElems.Trod_stays laidOut' (by kernel_rfl) (of_decide_eq_true (by kernel_rfl)) h0 (fun x hx => hB.same (hlt x hx)) (fun x hx => hsp x (by simpa using hx)) (W' := W') (sp' := sp)
    exact trodAll_mk1 hk

theorem proved : Rows.FaultsUnseenSaid :=
  OpenClaim.holds_of_wide 3 Try.f3 rfl rfl rfl rfl rfl rfl rfl ⟨rfl, rfl, rfl, rfl, rfl⟩ rfl rfl rfl rfl rfl (by kernel_rfl) Try.func3 (by kernel_rfl)
    (of_decide_eq_true (by kernel_rfl)) (by unfold Func.isWrapper; first | (rw [if_pos (by decide +kernel)]; kernel_rfl) | (rw [if_neg (by decide +kernel)]; exact ⟨rfl, rfl⟩))
    (fun os started H enc _ => lifted os started H enc)
end Go.Proofs.Ytfnklchhhojimaa.lawUnseen
