/-
Proved here: WordsListsCardSaid: lists are written and read as the document says.
Conditions: none beyond those that the given row and the given card print.
-/
import Derived.Test.YtohcmfobnkaaiaaGreatDoorLawLists
import Derived.Test.YtohcmfobnkaaiaaGreatDoorLaid01
import Derived.Test.YtohcmfobnkaaiaaGreatDoorOpen01
import Derived.Test.YtohcmfobnkaaiaaGreatDoorOpenFld
import Derived.Test.YtohcmfobnkaaiaaGreatDoorCards
import Derived.Test.YtohcmfobnkaaiaaGreatDoorTie
set_option linter.unusedSimpArgs false
set_option linter.unusedVariables false
namespace Go.Proofs.YtohcmfobnkaaiaaGreatDoor.lawLists
open Go Go.RowKit Tor Go.WideShapes Go.ChangeShapes Go.ChangeAt Go.Deep Go.Joins Go.ChangeMaps Go.Proofs.YtohcmfobnkaaiaaGreatDoor

set_option maxRecDepth 100000 in
theorem lifted (os : Os) (started : os.Started) (H : Type) (enc : TypeId × Value → H) :
    ReturnsInHanded {} Tryz.checked os 3 .any (fun w args => (Rows.wordsListsSpec.pre enc Tryz.prog Tryz.f3 Rows.wordsListsRow.domain false w args ∧ laidMet Tryz.prog Rows.wordsListsRow.laid w) ∧ sizedMet enc Tryz.prog Tryz.f3 (OpenSpec.ofChange Rows.wordsListsSpec) false w args)
      (Rows.wordsListsSpec.post enc Tryz.prog Tryz.f3 false true false false) := by
  refine wrap (C := Tryz.checked) (X := fun w _ => laidMet Tryz.prog Rows.wordsListsRow.laid w) (fun _ _ _ hh h => h.of_heap hh) Go.Proofs.YtohcmfobnkaaiaaGreatDoor.own started (by kernel_rfl) Tryz.func3
    (ChangeSpec.witness_shaped (enc := enc) (C := Tryz.checked) (os := os) (X := fun w _ => laidMet Tryz.prog Rows.wordsListsRow.laid w) false (World.laidAll Tryz.prog os Rows.wordsListsRow.laid) #[.slice none 0 0, .string ⟨#[]⟩] 8 (World.laidAll_os _ _ _)
      (World.shaped_of_ZipB (by kernel_rfl) (by kernel_rfl)) (by kernel_rfl) (by kernel_rfl) (by kernel_rfl)
      (laidMet_laidAll _ (by kernel_rfl) (by kernel_rfl))) ?_
  intro W base args ds gs before hval hW hL hsh
  have hW' := hW
  obtain ⟨p, q, hA0, hV, rfl, hfz, hnd⟩ := hW
  have hA : DataW.TrodAll enc Tryz.prog W 0 (fun _ => true) true Tryz.f3.params.toList args.toList ds p := hA0
  rw [Tryz.params3] at hA hval
  obtain ⟨rfl, rfl⟩ := trodVars_none hV
  obtain ⟨v0, v1, d0, d1, p0, p1, rfl, rfl, rfl, h0, h1⟩ := trodAll_two hA
  obtain ⟨f2, hf2⟩ := id h0
  obtain ⟨A, l, c, e2, hr, hlc, hc, hs⟩ := open_nums Tryz.underlying22 Tryz.underlying3 (by kernel_rfl) hf2
  obtain ⟨q0, q1, q2, rfl⟩ := okWide_slice Tryz.underlying22 (hval 0 22 v0 rfl rfl)
  simp [Value.cells] at e2
  obtain ⟨rfl, rfl, rfl⟩ := e2
  obtain ⟨s, rfl, rfl, rfl, ws⟩ := open_string Tryz.underlying9 (hval 1 9 v1 rfl rfl) h1
  clear hA0
  simp only [List.append_nil] at hW'
  have hWd : WdAt W := wd_of_laid hsh hL
  have HC : Calls Tryz.prog 3 #[.slice q0 l.length q2, .string s] W (Ret (.bool true) W) := by
    have := lawLists_any q0 l q2 s.data.toList W hWd hr hlc hc
    rw [bN_self] at this
    exact this
  have hlt : ∀ x ∈ p0, x.block < W.heap.size := fun x hx => hW'.lt x (by simpa using hx)
  refine (HC).mono fun e W' ⟨he, hB⟩ => ?_
  subst he
  refine ⟨_, rfl, post_of_below (pa := p0) (pv := []) hW' (fun _ _ _ => ?_) (fun sp hsp => ?_) (fun _ _ => rfl) (by simp) hB (ok_one (by kernel_rfl) rfl (okWide_bool_mk Tryz.underlying4 _))⟩
  · exact trodAll_mk1 (shut_bool Tryz.underlying4 _)
  · have hk := WideElems.Trod_stays laidOut' (by kernel_rfl) (of_decide_eq_true (by kernel_rfl)) h0 (fun x hx => hB.same (hlt x hx)) (fun x hx => hsp x (by simpa using hx)) (W' := W') (sp' := sp)
    have h3 := trodAll_mk2 hk (shut_string Tryz.underlying9 ws)
    simp only [List.append_nil] at h3
    exact h3

theorem row_holds : Rows.WordsListsSaid :=
  OpenClaim.holds_of_wide 3 Tryz.f3 rfl rfl rfl rfl rfl rfl rfl ⟨rfl, rfl, rfl, rfl, rfl⟩ rfl rfl rfl rfl rfl (by kernel_rfl) Tryz.func3 (by kernel_rfl)
    (of_decide_eq_true (by kernel_rfl)) (by unfold Func.isWrapper; first | (rw [if_pos (by decide +kernel)]; kernel_rfl) | (rw [if_neg (by decide +kernel)]; exact ⟨rfl, rfl⟩))
    (fun os started H enc _ => lifted os started H enc)

theorem proved : Rows.WordsListsCardSaid :=
  Claim7.holds_tied_plain_at .later [] [.data, .data, .data, .data, .sentinel, .sentinel, .data, .pinned] true (true, "4cba8622f4ecf7f90f6c889963adb70dfb208223f4a0ac4b250be0871e23e183") true
    row_holds (fun _ h => by cases h) (by kernel_rfl) (fun _ h => by cases h) wordsLists_row_tie rfl ⟨rfl, rfl⟩ (by kernel_rfl) rfl
    (fun f fn hf hfn => by
      obtain rfl : f = 3 := Option.some.inj ((show Tryz.prog.funcNamed "torchon/torchonlaw01.WordsLists" = some 3 by kernel_rfl).symm.trans hf) |>.symm
      obtain rfl : fn = Tryz.f3 := (Option.some.inj (Tryz.func3.symm.trans hfn)).symm
      exact ⟨by kernel_rfl, fun j t ht => by
        rw [Tryz.params3] at ht
        rcases j with _ | _ | j
        · simp at ht; subst ht; first | decide +kernel | kernel_rfl
        · simp at ht; subst ht; first | decide +kernel | kernel_rfl
        · simp at ht⟩)
    (by kernel_rfl)
#print axioms proved
end Go.Proofs.YtohcmfobnkaaiaaGreatDoor.lawLists
