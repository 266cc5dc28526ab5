/-
Proved here: DiagramStandsCardSaid: the rows have each work once, works of a row do not touch, each work of another row touches one of the row before; the parts of a sheet that is cut are the same lace.
Conditions: none beyond those that the given row and the given card print.
-/
import Derived.Test.YtoccplfnjammjaaGreatDoorDLawStands
import Derived.Test.YtoccplfnjammjaaGreatDoorLaid14
import Derived.Test.YtoccplfnjammjaaGreatDoorOpA
import Derived.Test.YtoccplfnjammjaaGreatDoorOpen3
import Derived.Test.YtoccplfnjammjaaGreatDoorCards
import Derived.Test.YtoccplfnjammjaaGreatDoorTie
set_option linter.unusedSimpArgs false
set_option linter.unusedVariables false
namespace Go.Proofs.YtoccplfnjammjaaGreatDoor.lawDStands
open Go Go.RowKit Tor Go.WideShapes Go.ChangeShapes Go.ChangeAt Go.Deep Go.Joins Go.ChangeMaps Go.Proofs.YtoccplfnjammjaaGreatDoor

set_option maxRecDepth 100000 in
set_option maxHeartbeats 1000000 in
theorem lifted (os : Os) (started : os.Started) (H : Type) (enc : TypeId × Value → H) :
    ReturnsInHanded {} Tryz.checked os 7 .any (fun w args => (Rows.diagramStandsSpec.pre enc Tryz.prog Tryz.f7 Rows.diagramStandsRow.domain false w args ∧ laidMet Tryz.prog Rows.diagramStandsRow.laid w) ∧ sizedMet enc Tryz.prog Tryz.f7 (OpenSpec.ofChange Rows.diagramStandsSpec) false w args)
      (Rows.diagramStandsSpec.post enc Tryz.prog Tryz.f7 false true false false) := by
  refine wrap (C := Tryz.checked) (X := fun w _ => laidMet Tryz.prog Rows.diagramStandsRow.laid w) (fun _ _ _ hh h => h.of_heap hh) Go.Proofs.YtoccplfnjammjaaGreatDoor.own started (by kernel_rfl) Tryz.func7
    (ChangeSpec.witness_shaped (enc := enc) (C := Tryz.checked) (os := os) (X := fun w _ => laidMet Tryz.prog Rows.diagramStandsRow.laid w) false (World.laidAll Tryz.prog os Rows.diagramStandsRow.laid) #[.agg #[.int .i64 0, .slice none 0 0], .int .u16 0] 8 (World.laidAll_os _ _ _)
      (World.shaped_of_ZipB (by kernel_rfl) (by kernel_rfl)) (by kernel_rfl) (by kernel_rfl) (by kernel_rfl)
      (laidMet_laidAll _ (by kernel_rfl) (by kernel_rfl))) ?_
  intro W base args ds gs before hval hW hL hsh
  have hW' := hW
  obtain ⟨p, q, hA0, hV, rfl, hfz, hnd⟩ := hW
  have hA : DataW.TrodAll enc Tryz.prog W 0 (fun _ => true) true Tryz.f7.params.toList args.toList ds p := hA0
  rw [Tryz.params7] at hA hval
  obtain ⟨rfl, rfl⟩ := trodVars_none hV
  obtain ⟨v0, v1, d0, d1, p0, p1, rfl, rfl, rfl, h0, h1⟩ := trodAll_two hA
  obtain ⟨P, A, l, c, rfl, hr, hlc, hc, hs⟩ := open_sheet (hval 0 25 v0 rfl rfl) h0
  obtain ⟨a, rfl, rfl, rfl, wa⟩ := open_int Tryz.underlying39 (hval 1 39 v1 rfl rfl) h1
  have hv0 := hval 0 25 _ rfl rfl
  have hnil : A = none → c = 0 := fun e => by subst e; exact sheet_nil hv0 h0
  clear hA0
  simp only [List.append_nil] at hW'

  have hdt : DtAt W := dt_of_laid hsh hL
  have hlt : ∀ x ∈ p0, x.block < W.heap.size := fun x hx => hW'.lt x (by simpa using hx)
  refine (lawStands_any P A l c a W _ hr (Nat.le_refl _) hs (Nat.le_trans hlc hc) wa hnil hdt).mono fun e W' ⟨he, hB⟩ => ?_
  subst he
  refine ⟨_, rfl, post_of_below (pa := p0) (pv := []) hW' (fun _ _ _ => ?_) (fun sp hsp => ?_) (fun _ _ => rfl) (by simp) hB (ok_one (by kernel_rfl) rfl (okWide_bool_mk Tryz.underlying4 _))⟩
  · exact trodAll_mk1 (shut_bool Tryz.underlying4 _)
  · have hk := WideElems.Trod_stays laidOut' (by kernel_rfl) (of_decide_eq_true (by kernel_rfl)) h0 (fun x hx => hB.same (hlt x hx)) (fun x hx => hsp x (by simpa using hx)) (W' := W') (sp' := sp)
    have h3 := trodAll_mk2 hk (shut_int Tryz.underlying39 wa)
    simp only [List.append_nil] at h3
    exact h3

theorem row_holds : Rows.DiagramStandsSaid :=
  OpenClaim.holds_of_wide 7 Tryz.f7 rfl rfl rfl rfl rfl rfl rfl ⟨rfl, rfl, rfl, rfl, rfl⟩ rfl rfl rfl rfl rfl (by kernel_rfl) Tryz.func7 (by kernel_rfl)
    (of_decide_eq_true (by kernel_rfl)) (by unfold Func.isWrapper; first | (rw [if_pos (by decide +kernel)]; kernel_rfl) | (rw [if_neg (by decide +kernel)]; exact ⟨rfl, rfl⟩))
    (fun os started H enc _ => lifted os started H enc)

theorem proved : Rows.DiagramStandsCardSaid :=
  Claim7.holds_tied_plain_at .later [] [.data, .data, .data, .data, .sentinel, .sentinel, .pinned] true (true, "9af8064c31e739af9d421cf477a04a5b6e0611a6368573a182d9d4d357d8adc3") true
    row_holds (fun _ h => by cases h) (by kernel_rfl) (fun _ h => by cases h) diagramStands_row_tie rfl ⟨rfl, rfl⟩ (by kernel_rfl) rfl
    (fun f fn hf hfn => by
      obtain rfl : f = 7 := Option.some.inj ((show Tryz.prog.funcNamed "torchon/torchonlaw14.DiagramStands" = some 7 by kernel_rfl).symm.trans hf) |>.symm
      obtain rfl : fn = Tryz.f7 := (Option.some.inj (Tryz.func7.symm.trans hfn)).symm
      exact ⟨by kernel_rfl, fun j t ht => by
        rw [Tryz.params7] at ht
        rcases j with _ | _ | j
        · simp at ht; subst ht; first | decide +kernel | kernel_rfl
        · simp at ht; subst ht; first | decide +kernel | kernel_rfl
        · simp at ht⟩)
    (by kernel_rfl)
#print axioms proved
end Go.Proofs.YtoccplfnjammjaaGreatDoor.lawDStands
