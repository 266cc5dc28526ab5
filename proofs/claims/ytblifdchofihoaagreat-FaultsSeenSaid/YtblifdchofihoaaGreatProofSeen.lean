/-
Proved here: FaultsSeenSaid: for every case (pairs, span, instructions and two faults) and every sheet the law FaultsSeen returns true, and both read behind the call as they did.
Conditions: none beyond those that the given row prints.
-/
import Derived.Test.YtblifdchofihoaaGreatLawSeen
import Derived.Test.YtblifdchofihoaaGreatOpen25
set_option linter.unusedSimpArgs false
set_option linter.unusedVariables false
namespace Go.Proofs.YtblifdchofihoaaGreat.lawSeen
open Go Go.RowKit Tor Go.WideShapes Go.ChangeShapes Go.ChangeAt Go.Proofs.YtblifdchofihoaaGreat

set_option maxRecDepth 100000 in
theorem lifted (os : Os) (started : os.Started) (H : Type) (enc : TypeId × Value → H) :
    ReturnsInHanded {} Tryz.checked os 3 .any (Rows.faultsSeenSpec.pre6 enc Tryz.prog Tryz.f3 Rows.faultsSeenRow.domain false) (Rows.faultsSeenSpec.post enc Tryz.prog Tryz.f3 false true false false) := by
  refine returnsInHanded_of_change (C := Tryz.checked) Go.Proofs.YtblifdchofihoaaGreat.own started (by kernel_rfl) Tryz.func3
    (ChangeSpec.witness6 (enc := enc) (C := Tryz.checked) false ⟨#[], #[.agg #[.int .i64 0, .int .i64 0, .slice none 0 0, .int .i64 0, .int .i64 0, .int .i64 0, .int .i64 0, .int .i64 0, .int .i64 0, .int .i64 0, .int .i64 0], .agg #[.int .i64 0, .slice none 0 0]], []⟩ 8 (by kernel_rfl) (by kernel_rfl) (by kernel_rfl) (by kernel_rfl)) ?_
  intro W base args ds gs before hval hW hcnd _
  have hW' := hW
  obtain ⟨p, q, hA0, hV, rfl, hfz, hnd⟩ := hW
  have hA : DataW.TrodAll enc Tryz.prog W 0 (fun _ => true) true Tryz.f3.params.toList args.toList ds p := hA0
  rw [Tryz.params3] at hA hval
  obtain ⟨v0, v1, d0, d1, p0, p1, rfl, rfl, rfl, h0, h1⟩ := trodAll_two hA
  obtain ⟨rfl, rfl⟩ := trodVars_none hV
  obtain ⟨P, S, A, l, c, f, g, rfl, hr, hlc, hc, hs⟩ := open_case (hval 0 26 v0 rfl rfl) h0
  obtain ⟨pp, B, m, d, rfl, hr2, hlc2, hc2, hs2⟩ := open_sheet (hval 1 29 v1 rfl rfl) h1
  clear hA0
  simp only [List.append_nil] at hW'
  refine (lawSeen_any P S A l c f g pp B m d W W.heap.size hr hr2 (Nat.le_refl _) hs hs2 (Nat.le_trans hlc hc) (Nat.le_trans hlc2 hc2) hlc).mono fun e W' ⟨he, hB⟩ => ?_
  subst he
  have hlt : ∀ x ∈ p0 ++ p1, x.block < W.heap.size := fun x hx => hW'.lt x (by simpa using hx)
  refine ⟨_, rfl, post_of_below (pa := p0 ++ p1) (pv := []) hW' (fun _ _ _ => ?_) (fun sp hsp => ?_) (fun _ _ => rfl) (by simp) hB (ok_one (by kernel_rfl) rfl (okWide_bool_mk Tryz.underlying4 _))⟩
  · exact trodAll_mk1 (shut_bool Tryz.underlying4 _)
  · have hk := WideElems.Trod_stays laidOut' (by kernel_rfl) (of_decide_eq_true (by kernel_rfl)) h0 (fun x hx => hB.same (hlt x (by simp [hx]))) (fun x hx => hsp x (by simp [hx])) (W' := W') (sp' := sp)
    have hk2 := WideElems.Trod_stays laidOut' (by kernel_rfl) (of_decide_eq_true (by kernel_rfl)) h1 (fun x hx => hB.same (hlt x (by simp [hx]))) (fun x hx => hsp x (by simp [hx])) (W' := W') (sp' := sp)
    exact trodAll_mk2 hk hk2

theorem proved : Rows.FaultsSeenSaid :=
  OpenClaim.holds_of_wide 3 Tryz.f3 rfl rfl rfl rfl rfl rfl rfl ⟨rfl, rfl, rfl, rfl, rfl⟩ rfl rfl rfl rfl rfl (by kernel_rfl) Tryz.func3 (by kernel_rfl)
    (of_decide_eq_true (by kernel_rfl)) (by unfold Func.isWrapper; first | (rw [if_pos (by decide +kernel)]; kernel_rfl) | (rw [if_neg (by decide +kernel)]; exact ⟨rfl, rfl⟩))
    (fun os started H enc _ => lifted os started H enc)
end Go.Proofs.YtblifdchofihoaaGreat.lawSeen
