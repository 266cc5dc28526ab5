/-
Proved here: DiagramReadsCardSaid: Read returns what the document says, and Draw of what it returns is the text.
Conditions: none beyond those that the given row and the given card print.
-/
import Derived.Test.YtoccplfnjammjaaGreatDoorDRdsA
import Derived.Test.YtoccplfnjammjaaGreatDoorLaid14
import Derived.Test.YtoccplfnjammjaaGreatDoorOpen3
import Derived.Test.YtoccplfnjammjaaGreatDoorCards
import Derived.Test.YtoccplfnjammjaaGreatDoorTie
set_option linter.unusedSimpArgs false
set_option linter.unusedVariables false
namespace Go.Proofs.YtoccplfnjammjaaGreatDoor.lawDReads
open Go Go.RowKit Tor Go.WideShapes Go.ChangeShapes Go.ChangeAt Go.Deep Go.Joins Go.ChangeMaps Go.Proofs.YtoccplfnjammjaaGreatDoor

set_option maxRecDepth 100000 in
set_option maxHeartbeats 1000000 in
theorem lifted (os : Os) (started : os.Started) (H : Type) (enc : TypeId × Value → H) :
    ReturnsInHanded {} Tryz.checked os 3 .any (fun w args => (Rows.diagramReadsSpec.pre enc Tryz.prog Tryz.f3 Rows.diagramReadsRow.domain false w args ∧ laidMet Tryz.prog Rows.diagramReadsRow.laid w) ∧ sizedMet enc Tryz.prog Tryz.f3 (OpenSpec.ofChange Rows.diagramReadsSpec) false w args)
      (Rows.diagramReadsSpec.post enc Tryz.prog Tryz.f3 false true false false) := by
  refine wrap (C := Tryz.checked) (X := fun w _ => laidMet Tryz.prog Rows.diagramReadsRow.laid w) (fun _ _ _ hh h => h.of_heap hh) Go.Proofs.YtoccplfnjammjaaGreatDoor.own started (by kernel_rfl) Tryz.func3
    (ChangeSpec.witness_shaped (enc := enc) (C := Tryz.checked) (os := os) (X := fun w _ => laidMet Tryz.prog Rows.diagramReadsRow.laid w) false (World.laidAll Tryz.prog os Rows.diagramReadsRow.laid) #[.string ⟨#[]⟩] 8 (World.laidAll_os _ _ _)
      (World.shaped_of_ZipB (by kernel_rfl) (by kernel_rfl)) (by kernel_rfl) (by kernel_rfl) (by kernel_rfl)
      (laidMet_laidAll _ (by kernel_rfl) (by kernel_rfl))) ?_
  intro W base args ds gs before hval hW hL hsh
  have hW' := hW
  obtain ⟨p, q, hA0, hV, rfl, hfz, hnd⟩ := hW
  have hA : DataW.TrodAll enc Tryz.prog W 0 (fun _ => true) true Tryz.f3.params.toList args.toList ds p := hA0
  rw [Tryz.params3] at hA hval
  obtain ⟨rfl, rfl⟩ := trodVars_none hV
  obtain ⟨v0, d0, rfl, rfl, h0⟩ := trodAll_one hA
  obtain ⟨s, rfl, rfl, rfl, hs⟩ := open_string Tryz.underlying9 (hval 0 9 v0 rfl rfl) h0
  clear hA0
  simp only [List.append_nil] at hW'

  have hdt : DtAt W := dt_of_laid hsh hL
  obtain ⟨L, rfl⟩ : ∃ L, s = bN L := ⟨s.data.toList, (bN_self s).symm⟩
  have hL9 : L.length ≤ 9223372036854775807 := by have h := hs; rw [bN_size] at h; first | exact h | omega
  refine (lawReads_any L hL9 W hdt).mono fun e W' ⟨he, hB⟩ => ?_
  subst he
  refine ⟨_, rfl, post_of_below (pa := []) (pv := []) hW' (fun _ _ _ => ?_) (fun sp hsp => ?_) (fun _ _ => rfl) (by simp) hB (ok_one (by kernel_rfl) rfl (okWide_bool_mk Tryz.underlying4 _))⟩
  · exact trodAll_mk1 (shut_bool Tryz.underlying4 _)
  · exact trodAll_mk1 (shut_string Tryz.underlying9 hs)

theorem row_holds : Rows.DiagramReadsSaid :=
  OpenClaim.holds_of_wide 3 Tryz.f3 rfl rfl rfl rfl rfl rfl rfl ⟨rfl, rfl, rfl, rfl, rfl⟩ rfl rfl rfl rfl rfl (by kernel_rfl) Tryz.func3 (by kernel_rfl)
    (of_decide_eq_true (by kernel_rfl)) (by unfold Func.isWrapper; first | (rw [if_pos (by decide +kernel)]; kernel_rfl) | (rw [if_neg (by decide +kernel)]; exact ⟨rfl, rfl⟩))
    (fun os started H enc _ => lifted os started H enc)

theorem proved : Rows.DiagramReadsCardSaid :=
  Claim7.holds_tied_plain_at .later [] [.data, .data, .data, .data, .sentinel, .sentinel, .pinned] true (true, "9af8064c31e739af9d421cf477a04a5b6e0611a6368573a182d9d4d357d8adc3") true
    row_holds (fun _ h => by cases h) (by kernel_rfl) (fun _ h => by cases h) diagramReads_row_tie rfl ⟨rfl, rfl⟩ (by kernel_rfl) rfl
    (fun f fn hf hfn => by
      obtain rfl : f = 3 := Option.some.inj ((show Tryz.prog.funcNamed "torchon/torchonlaw14.DiagramReads" = some 3 by kernel_rfl).symm.trans hf) |>.symm
      obtain rfl : fn = Tryz.f3 := (Option.some.inj (Tryz.func3.symm.trans hfn)).symm
      exact ⟨by kernel_rfl, fun j t ht => by
        rw [Tryz.params3] at ht
        rcases j with _ | j
        · simp at ht; subst ht; first | decide +kernel | kernel_rfl
        · simp at ht⟩)
    (by kernel_rfl)
#print axioms proved
end Go.Proofs.YtoccplfnjammjaaGreatDoor.lawDReads
